/- The store's lists, which stores may be, what comes fills. -/
import Derived.Test.YtlmponhpepcllaaFnSto
import Derived.Test.YtlmponhpepcllaaPLib
import Derived.Test.YtlmponhpepcllaaDOpen
set_option linter.unusedVariables false
set_option linter.unusedSimpArgs false

/- Lists of lines, of takes: which are the same. -/
namespace Go.Proofs.Pure
open Go.Proofs.D Go.Proofs.F

abbrev Ln := Int × Int × Unit
abbrev Stp := Int × Int × List Ln × Unit
def ln0 : Ln := (0, (0, ()))
def at0 (l : List Ln) (i : Nat) : Ln := l.getD i ln0
theorem at_get {l : List Ln} {i : Nat} (h : i < l.length) : l[i]? = some (at0 l i) := by
  unfold at0; rw [List.getD_eq_getElem?_getD, List.getElem?_eq_getElem h]; rfl

def sameL (x y : List Ln) : Bool := (x.length == y.length) && allFrom (fun i => eqE kLine (at0 x i) (at0 y i)) 0 x.length

theorem equal_val (x y : List Ln) (hx : x.length < 1000) : slices_Equal_api_Line_api_Line x y = some (sameL x y) := by
  unfold slices_Equal_api_Line_api_Line sameL
  by_cases h : x.length = y.length
  · have e : (((x.length : Int) : Int) != (y.length : Int)) = false := by simp [h]
    rw [e]
    simp only [cond_false]
    have := loop_all (step := slices_Equal_api_Line_api_Line.l1) (fun i => (x, (y, ((x.length : Int), (i : Int))))) (fun i => eqE kLine (at0 x i) (at0 y i)) (.inl ()) (.inr false) x.length (by omega) (fun i hi => by
      unfold slices_Equal_api_Line_api_Line.l1
      simp only [dec_t (show (i : Int) < (x.length : Int) by omega), cond_true]
      rw [nthK_get (at_get hi), nthK_get (at_get (by omega : i < y.length))]
      cases eqE kLine (at0 x i) (at0 y i) with
      | true => simp only [Bool.not_true, cond_false, cond_true]; rw [succ_i64 (by omega)]
      | false => rfl) (by
      unfold slices_Equal_api_Line_api_Line.l1
      simp only [dec_f (show ¬ (x.length : Int) < (x.length : Int) by omega), cond_false])
    rw [show (((0 : Nat) : Int)) = 0 from rfl] at this
    rw [this, Option.bind_some]
    rw [show (x.length == y.length) = true by simp [h], Bool.true_and]
    cases allFrom (fun i => eqE kLine (at0 x i) (at0 y i)) 0 x.length <;> rfl
  · have e : (((x.length : Int) : Int) != (y.length : Int)) = true := by simp; omega
    rw [e, show (x.length == y.length) = false by simp [h]]
    rfl

theorem ref_equal_val (x y : List Ln) (hx : x.length < 1000) : pledgeref12_SameLines x y = some (sameL x y) := by
  unfold pledgeref12_SameLines sameL
  by_cases h : x.length = y.length
  · have e : (((x.length : Int) : Int) != (y.length : Int)) = false := by simp [h]
    rw [e]
    simp only [cond_false]
    have := loop_all (step := pledgeref12_SameLines.l1) (fun i => (x, (y, (i : Int)))) (fun i => eqE kLine (at0 x i) (at0 y i)) (.inl ()) (.inr false) x.length (by omega) (fun i hi => by
      unfold pledgeref12_SameLines.l1
      simp only [dec_t (show (i : Int) < (x.length : Int) by omega), cond_true]
      rw [nthK_get (at_get hi), nthK_get (at_get (by omega : i < y.length))]
      cases eqE kLine (at0 x i) (at0 y i) with
      | true => simp only [Bool.not_true, cond_false, cond_true]; rw [succ_i64 (by omega)]
      | false => rfl) (by
      unfold pledgeref12_SameLines.l1
      simp only [dec_f (show ¬ (x.length : Int) < (x.length : Int) by omega), cond_false])
    rw [show (((0 : Nat) : Int)) = 0 from rfl] at this
    rw [this, Option.bind_some]
    rw [show (x.length == y.length) = true by simp [h], Bool.true_and]
    cases allFrom (fun i => eqE kLine (at0 x i) (at0 y i)) 0 x.length <;> rfl
  · have e : (((x.length : Int) : Int) != (y.length : Int)) = true := by simp; omega
    rw [e, show (x.length == y.length) = false by simp [h]]
    rfl

theorem eqLine_refl (a : Ln) : eqE kLine a a = true := by
  show ((a.1 == a.1) && ((a.2.1 == a.2.1) && true)) = true
  simp

theorem sameL_refl (x : List Ln) : sameL x x = true := by
  unfold sameL
  rw [show (x.length == x.length) = true by simp, Bool.true_and, allFrom_iff]
  exact fun j _ _ => eqLine_refl _


abbrev Tk := Int × Int × Int × Int × Unit
def tk0 : Tk := (0, (0, (0, (0, ()))))
def at1 (l : List Tk) (i : Nat) : Tk := l.getD i tk0
theorem at1_get {l : List Tk} {i : Nat} (h : i < l.length) : l[i]? = some (at1 l i) := by
  unfold at1; rw [List.getD_eq_getElem?_getD, List.getElem?_eq_getElem h]; rfl

def sameT (x y : List Tk) : Bool := (x.length == y.length) && allFrom (fun i => eqE kTake (at1 x i) (at1 y i)) 0 x.length

theorem equalT_val (x y : List Tk) (hx : x.length < 1000) : slices_Equal_api_Take_api_Take x y = some (sameT x y) := by
  unfold slices_Equal_api_Take_api_Take sameT
  by_cases h : x.length = y.length
  · have e : (((x.length : Int) : Int) != (y.length : Int)) = false := by simp [h]
    rw [e]
    simp only [cond_false]
    have := loop_all (step := slices_Equal_api_Take_api_Take.l1) (fun i => (x, (y, ((x.length : Int), (i : Int))))) (fun i => eqE kTake (at1 x i) (at1 y i)) (.inl ()) (.inr false) x.length (by omega) (fun i hi => by
      unfold slices_Equal_api_Take_api_Take.l1
      simp only [dec_t (show (i : Int) < (x.length : Int) by omega), cond_true]
      rw [nthK_get (at1_get hi), nthK_get (at1_get (by omega : i < y.length))]
      cases eqE kTake (at1 x i) (at1 y i) with
      | true => simp only [Bool.not_true, cond_false, cond_true]; rw [succ_i64 (by omega)]
      | false => rfl) (by
      unfold slices_Equal_api_Take_api_Take.l1
      simp only [dec_f (show ¬ (x.length : Int) < (x.length : Int) by omega), cond_false])
    rw [show (((0 : Nat) : Int)) = 0 from rfl] at this
    rw [this, Option.bind_some]
    rw [show (x.length == y.length) = true by simp [h], Bool.true_and]
    cases allFrom (fun i => eqE kTake (at1 x i) (at1 y i)) 0 x.length <;> rfl
  · have e : (((x.length : Int) : Int) != (y.length : Int)) = true := by simp; omega
    rw [e, show (x.length == y.length) = false by simp [h]]
    rfl

theorem ref_equalT_val (x y : List Tk) (hx : x.length < 1000) : pledgeref13_SameTakes x y = some (sameT x y) := by
  unfold pledgeref13_SameTakes sameT
  by_cases h : x.length = y.length
  · have e : (((x.length : Int) : Int) != (y.length : Int)) = false := by simp [h]
    rw [e]
    simp only [cond_false]
    have := loop_all (step := pledgeref13_SameTakes.l1) (fun i => (x, (y, (i : Int)))) (fun i => eqE kTake (at1 x i) (at1 y i)) (.inl ()) (.inr false) x.length (by omega) (fun i hi => by
      unfold pledgeref13_SameTakes.l1
      simp only [dec_t (show (i : Int) < (x.length : Int) by omega), cond_true]
      rw [nthK_get (at1_get hi), nthK_get (at1_get (by omega : i < y.length))]
      cases eqE kTake (at1 x i) (at1 y i) with
      | true => simp only [Bool.not_true, cond_false, cond_true]; rw [succ_i64 (by omega)]
      | false => rfl) (by
      unfold pledgeref13_SameTakes.l1
      simp only [dec_f (show ¬ (x.length : Int) < (x.length : Int) by omega), cond_false])
    rw [show (((0 : Nat) : Int)) = 0 from rfl] at this
    rw [this, Option.bind_some]
    rw [show (x.length == y.length) = true by simp [h], Bool.true_and]
    cases allFrom (fun i => eqE kTake (at1 x i) (at1 y i)) 0 x.length <;> rfl
  · have e : (((x.length : Int) : Int) != (y.length : Int)) = true := by simp; omega
    rw [e, show (x.length == y.length) = false by simp [h]]
    rfl

theorem eqTake_refl (a : Tk) : eqE kTake a a = true := by
  show ((a.1 == a.1) && ((a.2.1 == a.2.1) && ((a.2.2.1 == a.2.2.1) && ((a.2.2.2.1 == a.2.2.2.1) && true)))) = true
  simp

theorem sameT_refl (x : List Tk) : sameT x x = true := by
  unfold sameT
  rw [show (x.length == x.length) = true by simp, Bool.true_and, allFrom_iff]
  exact fun j _ _ => eqTake_refl _

end Go.Proofs.Pure

/- What calc.Sum answers. -/
namespace Go.Proofs.Pure
open Go.Proofs.D Go.Proofs.F

def total : List Int → Int | [] => 0 | x :: l => x + total l
theorem total_append : ∀ (a b : List Int), total (a ++ b) = total a + total b
  | [], b => by simp [total]
  | x :: a, b => by simp only [List.cons_append, total, total_append a b]; omega

theorem wrap_u64 (n : Int) : IntKind.u64.wrap n = n % 18446744073709551616 := by
  simp only [IntKind.wrap, IntKind.bits, IntKind.signed, Bool.false_and, Bool.false_eq_true, if_false, show (2 : Int) ^ 64 = 18446744073709551616 by decide]

theorem add64_val {a b c : Int} (ha : 0 ≤ a) (hb : 0 ≤ b) (hc : c = 0 ∨ c = 1) : add64 a b c = some ((a + b + c) % 18446744073709551616, ((a + b + c) / 18446744073709551616, ())) := by
  obtain ⟨a, rfl⟩ := Int.eq_ofNat_of_zero_le ha
  obtain ⟨b, rfl⟩ := Int.eq_ofNat_of_zero_le hb
  rcases hc with e | e <;> subst e <;> rfl

theorem fdiv63 {e : Int} (h1 : -9223372036854775808 ≤ e) (h2 : e < 9223372036854775808) : Int.fdiv e (2 ^ 63) = if e < 0 then -1 else 0 := by
  rw [show (2 : Int) ^ 63 = 9223372036854775808 by decide, Int.fdiv_eq_ediv_of_nonneg _ (by omega)]
  split <;> omega

/-- One number more, in two halves. -/
theorem sum_step {s e : Int} (h1 : -9223372036854775808 ≤ e) (h2 : e < 9223372036854775808) :
    ((s % 18446744073709551616 + e % 18446744073709551616 + 0) % 18446744073709551616 = (s + e) % 18446744073709551616) ∧
    (((s / 18446744073709551616) % 18446744073709551616 + (if e < 0 then -1 else 0) % 18446744073709551616 + (s % 18446744073709551616 + e % 18446744073709551616 + 0) / 18446744073709551616) % 18446744073709551616 = ((s + e) / 18446744073709551616) % 18446744073709551616) ∧
    ((s % 18446744073709551616 + e % 18446744073709551616 + 0) / 18446744073709551616 = 0 ∨ (s % 18446744073709551616 + e % 18446744073709551616 + 0) / 18446744073709551616 = 1) := by
  split <;> omega

theorem sum_loop (l : List Int) (hl : l.length < 9223372036854775807) (hx : ∀ x ∈ l, -9223372036854775808 ≤ x ∧ x < 9223372036854775808) : ∀ (k j : Nat), j + k = l.length →
    iterL calc_Sum.l1 (k + 1) ((total (l.take j) / 18446744073709551616) % 18446744073709551616, (total (l.take j) % 18446744073709551616, (l, ((l.length : Int), (j : Int))))) =
      some ((total l / 18446744073709551616) % 18446744073709551616, total l % 18446744073709551616)
  | 0, j, h => by
    have e : l.take j = l := List.take_of_length_le (by omega)
    rw [e]
    refine iterL_done ?_
    unfold calc_Sum.l1
    simp only [dec_f (show ¬ (j : Int) < (l.length : Int) by omega), cond_false]
  | k + 1, j, h => by
    have hj : j < l.length := by omega
    have hget : l[j]? = some l[j] := List.getElem?_eq_getElem hj
    obtain ⟨b1, b2⟩ := hx l[j] (List.getElem_mem hj)
    have htake : total (l.take (j + 1)) = total (l.take j) + l[j] := by
      rw [List.take_add_one, hget, total_append]; simp [total]
    obtain ⟨s1, s2, s3⟩ := sum_step (s := total (l.take j)) b1 b2
    have hstep : calc_Sum.l1 ((total (l.take j) / 18446744073709551616) % 18446744073709551616, (total (l.take j) % 18446744073709551616, (l, ((l.length : Int), (j : Int))))) =
        some (.inl ((total (l.take (j + 1)) / 18446744073709551616) % 18446744073709551616, (total (l.take (j + 1)) % 18446744073709551616, (l, ((l.length : Int), ((j + 1 : Nat) : Int)))))) := by
      unfold calc_Sum.l1
      simp only [dec_t (show (j : Int) < (l.length : Int) by omega), cond_true]
      rw [nthK_get hget, fdiv63 b1 b2, wrap_u64, wrap_u64, add64_val (by omega) (by omega) (.inl rfl), Option.bind_some]
      simp only []
      rw [add64_val (by omega) (by omega) s3, Option.bind_some, succ_i64 (by omega), s1, s2, htake]
    rw [iterL_next hstep]
    exact sum_loop l hl hx k (j + 1) (by omega)

/-- All numbers together, if that fits. -/
theorem sum_val (l : List Int) (hl : l.length < 4611686018427387904) (hx : ∀ x ∈ l, -9223372036854775808 ≤ x ∧ x < 9223372036854775808) (h1 : -9223372036854775808 ≤ total l) (h2 : total l < 9223372036854775808) : calc_Sum l = some (total l, (true, ())) := by
  unfold calc_Sum
  have := iterL_mono (sum_loop l (by omega) hx l.length 0 (by omega)) (m := loopN) (by rw [loopN_eq]; omega)
  simp only [List.take_zero, total, show (0 : Int) / 18446744073709551616 % 18446744073709551616 = 0 by decide, show (0 : Int) % 18446744073709551616 = 0 by decide] at this
  rw [show (((0 : Nat) : Int)) = 0 from rfl] at this
  rw [this, Option.bind_some]
  have hw : IntKind.i64.wrap (total l % 18446744073709551616) = total l := by
    unfold IntKind.wrap
    simp only [IntKind.bits, IntKind.signed, Bool.true_and, decide_eq_true_eq, show (2 : Int) ^ 64 = 18446744073709551616 by decide, show (2 : Int) ^ (64 - 1) = 9223372036854775808 by decide]
    split <;> omega
  simp only [hw]
  rw [fdiv63 h1 h2, wrap_u64]
  have : (((if total l < 0 then -1 else 0 : Int) % 18446744073709551616 : Int) == total l / 18446744073709551616 % 18446744073709551616) = true := by
    rw [beq_iff_eq]
    split <;> omega
  rw [this]
  rfl

theorem total_bound : ∀ (l : List Int), (∀ x ∈ l, -9223372036854775808 ≤ x ∧ x < 9223372036854775808) → -9223372036854775808 * (l.length : Int) ≤ total l ∧ total l ≤ 9223372036854775808 * (l.length : Int)
  | [], _ => by simp [total]
  | x :: l, h => by
    have h1 := h x List.mem_cons_self
    have h2 := total_bound l fun y hy => h y (List.mem_cons_of_mem _ hy)
    simp only [total, List.length_cons, Int.natCast_add, Int.natCast_one]
    omega

def fitsI (n : Int) : Bool := decide (-9223372036854775808 ≤ n) && decide (n < 9223372036854775808)
/-- All numbers together, or that they do not fit. -/
def sumOf (l : List Int) : Int × Bool × Unit := if fitsI (total l) = true then (total l, (true, ())) else (0, (false, ()))

theorem sum_all (l : List Int) (hl : l.length < 1000000) (hx : ∀ x ∈ l, -9223372036854775808 ≤ x ∧ x < 9223372036854775808) : calc_Sum l = some (sumOf l) := by
  by_cases hf : fitsI (total l) = true
  · have h := hf
    unfold fitsI at h
    simp only [Bool.and_eq_true, decide_eq_true_eq] at h
    unfold sumOf
    rw [if_pos hf]
    exact sum_val l (by omega) hx h.1 h.2
  · unfold sumOf
    rw [if_neg hf]
    have hb := total_bound l hx
    have hlen : (l.length : Int) < 1000000 := by omega
    unfold calc_Sum
    have := iterL_mono (sum_loop l (by omega) hx l.length 0 (by omega)) (m := loopN) (by rw [loopN_eq]; omega)
    simp only [List.take_zero, total, show (0 : Int) / 18446744073709551616 % 18446744073709551616 = 0 by decide, show (0 : Int) % 18446744073709551616 = 0 by decide] at this
    rw [show (((0 : Nat) : Int)) = 0 from rfl] at this
    rw [this, Option.bind_some]
    have hnf : ¬ (-9223372036854775808 ≤ total l ∧ total l < 9223372036854775808) := fun q => hf (by unfold fitsI; simp [q.1, q.2])
    generalize hw : IntKind.i64.wrap (total l % 18446744073709551616) = r
    have hr : -9223372036854775808 ≤ r ∧ r < 9223372036854775808 ∧ ((r = total l % 18446744073709551616 ∧ total l % 18446744073709551616 < 9223372036854775808) ∨ (r = total l % 18446744073709551616 - 18446744073709551616 ∧ 9223372036854775808 ≤ total l % 18446744073709551616)) := by
      rw [← hw]
      unfold IntKind.wrap
      simp only [IntKind.bits, IntKind.signed, Bool.true_and, decide_eq_true_eq, show (2 : Int) ^ 64 = 18446744073709551616 by decide, show (2 : Int) ^ (64 - 1) = 9223372036854775808 by decide]
      split <;> omega
    rw [fdiv63 hr.1 hr.2.1, wrap_u64]
    have : (((if r < 0 then -1 else 0 : Int) % 18446744073709551616 : Int) == total l / 18446744073709551616 % 18446744073709551616) = false := by
      rw [beq_eq_false_iff_ne]
      split <;> omega
    rw [this]
    rfl
end Go.Proofs.Pure

/- What the reference's sum answers: the same. -/
namespace Go.Proofs.Pure
open Go.Proofs.D Go.Proofs.F

theorem halves_val {a : Int} (h1 : -9223372036854775808 ≤ a) (h2 : a < 9223372036854775808) : pledgeref01_halves a = some (a / 4294967296, (a % 4294967296, ())) := by
  unfold pledgeref01_halves pledgeref01_halves_v2
  by_cases h : a < 0
  · rw [dec_t h]
    have e1 : IntKind.i64.wrap (a + 1) = a + 1 := wrap_i64 (by omega) (by omega)
    have e2 : IntKind.i64.wrap (0 - (a + 1)) = -(a + 1) := by rw [wrap_i64 (by omega) (by omega)]; omega
    simp only [cond_true, e1, e2]
    rw [dec_f (by omega : ¬ -(a + 1) < 0)]
    simp only [cond_false, Option.bind_some]
    have e3 : Int.tdiv (-(a + 1)) 4294967296 = -(a + 1) / 4294967296 := Int.tdiv_eq_ediv_of_nonneg (by omega)
    have e4 : Int.tmod (-(a + 1)) 4294967296 = -(a + 1) % 4294967296 := Int.tmod_eq_emod_of_nonneg (by omega)
    have w1 : IntKind.i64.wrap (-(a + 1) / 4294967296) = -(a + 1) / 4294967296 := wrap_i64 (by omega) (by omega)
    have w2 : IntKind.i64.wrap (-1 - -(a + 1) / 4294967296) = -1 - -(a + 1) / 4294967296 := wrap_i64 (by omega) (by omega)
    have w3 : IntKind.i64.wrap (4294967295 - -(a + 1) % 4294967296) = 4294967295 - -(a + 1) % 4294967296 := wrap_i64 (by omega) (by omega)
    simp only [e3, e4, w1, w2, w3]
    have g1 : -1 - -(a + 1) / 4294967296 = a / 4294967296 := by omega
    have g2 : 4294967295 - -(a + 1) % 4294967296 = a % 4294967296 := by omega
    rw [g1, g2]
  · rw [dec_f h]
    have e3 : Int.tdiv a 4294967296 = a / 4294967296 := Int.tdiv_eq_ediv_of_nonneg (by omega)
    have e4 : Int.tmod a 4294967296 = a % 4294967296 := Int.tmod_eq_emod_of_nonneg (by omega)
    simp only [cond_false, e3, e4]
    rw [wrap_i64 (by omega) (by omega)]

theorem total_take (l : List Int) {j : Nat} (hj : j < l.length) : total (l.take (j + 1)) = total (l.take j) + l[j] := by
  rw [List.take_add_one, List.getElem?_eq_getElem hj, total_append]; simp [total]

theorem refsum_loop (l : List Int) (hl : l.length < 1000000) (hx : ∀ x ∈ l, -9223372036854775808 ≤ x ∧ x < 9223372036854775808) : ∀ (k j : Nat), j + k = l.length →
    iterL pledgeref01_Sum.l1 (k + 1) ((l, ((), (j : Int))), ((total (l.take j) / 4294967296, (total (l.take j) % 4294967296, ())), ())) = some ((), ((total l / 4294967296, (total l % 4294967296, ())), ()))
  | 0, j, h => by
    have e : l.take j = l := List.take_of_length_le (by omega)
    rw [e]
    refine iterL_done ?_
    unfold pledgeref01_Sum.l1
    simp only [dec_f (show ¬ (j : Int) < (l.length : Int) by omega), cond_false]
  | k + 1, j, h => by
    have hj : j < l.length := by omega
    have hget : l[j]? = some l[j] := List.getElem?_eq_getElem hj
    obtain ⟨b1, b2⟩ := hx l[j] (List.getElem_mem hj)
    have htake := total_take l hj
    have hb := total_bound (l.take j) fun x hx' => hx x (List.mem_of_mem_take hx')
    have hlen : ((l.take j).length : Int) < 1000000 := by rw [List.length_take]; omega
    generalize hT : total (l.take j) = t at hb htake
    have hstep : pledgeref01_Sum.l1 ((l, ((), (j : Int))), ((t / 4294967296, (t % 4294967296, ())), ())) = some (.inl ((l, ((), ((j + 1 : Nat) : Int))), ((total (l.take (j + 1)) / 4294967296, (total (l.take (j + 1)) % 4294967296, ())), ()))) := by
      unfold pledgeref01_Sum.l1
      simp only [dec_t (show (j : Int) < (l.length : Int) by omega), cond_true]
      rw [nthK_get hget, halves_val b1 b2, Option.bind_some, succ_i64 (by omega), htake]
      have e1 : IntKind.i64.wrap (t % 4294967296 + l[j] % 4294967296) = t % 4294967296 + l[j] % 4294967296 := wrap_i64 (by omega) (by omega)
      have e2 : IntKind.i64.wrap (t / 4294967296 + l[j] / 4294967296) = t / 4294967296 + l[j] / 4294967296 := wrap_i64 (by omega) (by omega)
      simp only [e1, e2]
      by_cases q : t % 4294967296 + l[j] % 4294967296 ≥ 4294967296
      · rw [dec_t q]
        simp only [cond_true]
        rw [wrap_i64 (n := t / 4294967296 + l[j] / 4294967296 + 1) (by omega) (by omega), wrap_i64 (n := t % 4294967296 + l[j] % 4294967296 - 4294967296) (by omega) (by omega)]
        rw [show t / 4294967296 + l[j] / 4294967296 + 1 = (t + l[j]) / 4294967296 by omega, show t % 4294967296 + l[j] % 4294967296 - 4294967296 = (t + l[j]) % 4294967296 by omega]
      · rw [dec_f q]
        simp only [cond_false]
        rw [show t / 4294967296 + l[j] / 4294967296 = (t + l[j]) / 4294967296 by omega, show t % 4294967296 + l[j] % 4294967296 = (t + l[j]) % 4294967296 by omega]
    rw [iterL_next hstep]
    exact refsum_loop l hl hx k (j + 1) (by omega)

theorem refsum_all (l : List Int) (hl : l.length < 1000000) (hx : ∀ x ∈ l, -9223372036854775808 ≤ x ∧ x < 9223372036854775808) : pledgeref01_Sum l = some (sumOf l) := by
  unfold pledgeref01_Sum sumOf fitsI
  have := iterL_mono (refsum_loop l hl hx l.length 0 (by omega)) (m := loopN) (by rw [loopN_eq]; omega)
  simp only [List.take_zero, total, show (0 : Int) / 4294967296 = 0 by decide, show (0 : Int) % 4294967296 = 0 by decide] at this
  rw [show (((0 : Nat) : Int)) = 0 from rfl] at this
  rw [this, Option.bind_some]
  have hb := total_bound l hx
  have hlen : (l.length : Int) < 1000000 := by omega
  simp only []
  by_cases h1 : total l / 4294967296 < -2147483648
  · rw [dec_t h1, dec_f (by omega : ¬ -9223372036854775808 ≤ total l)]; rfl
  · rw [dec_f h1]
    by_cases h2 : total l / 4294967296 > 2147483647
    · rw [dec_t h2, dec_f (by omega : ¬ total l < 9223372036854775808), Bool.and_false]; rfl
    · rw [dec_f h2, dec_t (by omega : -9223372036854775808 ≤ total l), dec_t (by omega : total l < 9223372036854775808)]
      simp only [cond_false, Bool.and_true, if_true]
      rw [wrap_i64 (n := total l / 4294967296 * 4294967296) (by omega) (by omega), wrap_i64 (by omega) (by omega), show total l / 4294967296 * 4294967296 + total l % 4294967296 = total l by omega]
end Go.Proofs.Pure

/- What takes and items name of an article. -/
namespace Go.Proofs.Pure
open Go.Proofs.D Go.Proofs.F

abbrev Ord := Int × Int × List Ln × List Tk × List Tk × List Ln × Unit

def ofTake (a : Int) (t : Tk) : List Int := bif t.2.1 == a then [t.2.2.2.1] else []
def ofLine (a : Int) (t : Ln) : List Int := bif t.1 == a then [t.2.1] else []
def namedOf (a : Int) (t : List Tk) (l : List Ln) : List Int := t.flatMap (ofTake a) ++ l.flatMap (ofLine a)

theorem ofTake_len (a : Int) (t : Tk) : (ofTake a t).length ≤ 1 := by unfold ofTake; cases (t.2.1 == a) <;> simp
theorem ofLine_len (a : Int) (t : Ln) : (ofLine a t).length ≤ 1 := by unfold ofLine; cases (t.1 == a) <;> simp
theorem flat_len {α B : Type} {g : α → List B} (h : ∀ x, (g x).length ≤ 1) : ∀ l : List α, (l.flatMap g).length ≤ l.length
  | [] => by simp
  | x :: l => by
    have := h x; have := flat_len h l
    simp only [List.flatMap_cons, List.length_append, List.length_cons]; omega

theorem ref_named_l1 (a : Int) (l : List Ln) (t : List Tk) (ht : t.length < 1000000) : iterL pledgeref13_Named.l1 loopN ((t, (l, (a, ((), 0)))), ([], ())) = some ((l, (a, ())), (t.flatMap (ofTake a), ())) := by
  have := loop_walk (step := pledgeref13_Named.l1) t (fun i (acc : List Int) => ((t, (l, (a, ((), (i : Int))))), (acc, ()))) (fun _ y acc => .inl (acc ++ ofTake a y)) (fun acc => ((l, (a, ())), (acc, ()))) (fun i acc => acc.length ≤ i) [] (by omega) (by simp) (fun i y acc hx hI => by
    have hi := get_lt hx
    refine ⟨?_, fun _ h => by cases h; have := ofTake_len a y; simp only [List.length_append]; omega⟩
    unfold pledgeref13_Named.l1 ofTake
    simp only [dec_t (show (i : Int) < (t.length : Int) by omega), cond_true]
    rw [nthK_get hx, nthK_get hx]
    cases (y.2.1 == a) with
    | true =>
      simp only [cond_true]
      rw [room_ok (by simp; omega), succ_i64 (by omega)]
    | false => simp only [cond_false, List.append_nil]; rw [succ_i64 (by omega)]) (fun acc _ => by
    unfold pledgeref13_Named.l1
    simp only [dec_f (show ¬ (t.length : Int) < (t.length : Int) by omega), cond_false])
  rw [show (((0 : Nat) : Int)) = 0 from rfl] at this
  rw [this, walk_gather, List.nil_append]

theorem ref_named_l2 (a : Int) (acc0 : List Int) (t : List Ln) (h0 : acc0.length < 1000000) (ht : t.length < 1000000) : iterL pledgeref13_Named.l2 loopN ((t, (a, ((), 0))), (acc0, ())) = some ((), (acc0 ++ t.flatMap (ofLine a), ())) := by
  have := loop_walk (step := pledgeref13_Named.l2) t (fun i (acc : List Int) => ((t, (a, ((), (i : Int)))), (acc, ()))) (fun _ y acc => .inl (acc ++ ofLine a y)) (fun acc => ((), (acc, ()))) (fun i acc => acc.length ≤ i + acc0.length) acc0 (by omega) (by simp) (fun i y acc hx hI => by
    have hi := get_lt hx
    refine ⟨?_, fun _ h => by cases h; have := ofLine_len a y; simp only [List.length_append]; omega⟩
    unfold pledgeref13_Named.l2 ofLine
    simp only [dec_t (show (i : Int) < (t.length : Int) by omega), cond_true]
    rw [nthK_get hx, nthK_get hx]
    cases (y.1 == a) with
    | true =>
      simp only [cond_true]
      rw [room_ok (by simp; omega), succ_i64 (by omega)]
    | false => simp only [cond_false, List.append_nil]; rw [succ_i64 (by omega)]) (fun acc _ => by
    unfold pledgeref13_Named.l2
    simp only [dec_f (show ¬ (t.length : Int) < (t.length : Int) by omega), cond_false])
  rw [show (((0 : Nat) : Int)) = 0 from rfl] at this
  rw [this, walk_gather]

theorem wfTake {t : Tk} (h : WfE kTake t) : -9223372036854775808 ≤ t.2.2.2.1 ∧ t.2.2.2.1 < 9223372036854775808 := wf_i64 h.2.2.2.1
theorem wfLine {t : Ln} (h : WfE kLine t) : -9223372036854775808 ≤ t.2.1 ∧ t.2.1 < 9223372036854775808 := wf_i64 h.2.1

theorem named_fit (a : Int) (t : List Tk) (l : List Ln) (ht : ∀ x ∈ t, WfE kTake x) (hl : ∀ x ∈ l, WfE kLine x) : ∀ n ∈ namedOf a t l, -9223372036854775808 ≤ n ∧ n < 9223372036854775808 := by
  intro n hn
  unfold namedOf at hn
  rcases List.mem_append.mp hn with h | h
  · obtain ⟨x, hx, h2⟩ := List.mem_flatMap.mp h
    unfold ofTake at h2
    cases e : (x.2.1 == a) <;> rw [e] at h2
    · exact absurd h2 List.not_mem_nil
    · rw [List.mem_singleton.mp h2]; exact wfTake (ht x hx)
  · obtain ⟨x, hx, h2⟩ := List.mem_flatMap.mp h
    unfold ofLine at h2
    cases e : (x.1 == a) <;> rw [e] at h2
    · exact absurd h2 List.not_mem_nil
    · rw [List.mem_singleton.mp h2]; exact wfLine (hl x hx)

theorem named_len (a : Int) (t : List Tk) (l : List Ln) : (namedOf a t l).length ≤ t.length + l.length := by
  unfold namedOf
  have := flat_len (ofTake_len a) t
  have := flat_len (ofLine_len a) l
  simp only [List.length_append]; omega

theorem sumOf_eta (l : List Int) : some ((sumOf l).1, ((sumOf l).2.1, ())) = some (sumOf l) := rfl

theorem refNamed_val (a : Int) (t : List Tk) (l : List Ln) (h1 : t.length < 400000) (h2 : l.length < 400000) (ht : ∀ x ∈ t, WfE kTake x) (hl : ∀ x ∈ l, WfE kLine x) : pledgeref13_Named t l a = some (sumOf (namedOf a t l)) := by
  unfold pledgeref13_Named
  have := flat_len (ofTake_len a) t
  rw [ref_named_l1 a l t (by omega), Option.bind_some]
  simp only []
  rw [ref_named_l2 a _ l (by omega) (by omega), Option.bind_some]
  have hn := named_len a t l
  rw [show t.flatMap (ofTake a) ++ l.flatMap (ofLine a) = namedOf a t l from rfl, refsum_all _ (by omega) (named_fit a t l ht hl)]
  rfl
end Go.Proofs.Pure

/- Lines, takes: which may be. -/
namespace Go.Proofs.Pure
open Go.Proofs.D Go.Proofs.F

abbrev Prg := Int × Int × Int × List Ln × List Tk × List Ln × Int × Int × Int × Int × Unit

theorem wfL {l : List Ln} (h : ∀ x ∈ l, WfE kLine x) {i : Nat} (hi : i < l.length) : (0 ≤ (at0 l i).1 ∧ (at0 l i).1 < 256) ∧ -9223372036854775808 ≤ (at0 l i).2.1 ∧ (at0 l i).2.1 < 9223372036854775808 := by
  have := h (at0 l i) (get_mem (at_get hi))
  exact ⟨wf_u8 this.1, wf_i64 this.2.1⟩
theorem wfT {l : List Tk} (h : ∀ x ∈ l, WfE kTake x) {i : Nat} (hi : i < l.length) : (0 ≤ (at1 l i).2.1 ∧ (at1 l i).2.1 < 256) ∧ (0 ≤ (at1 l i).2.2.1 ∧ (at1 l i).2.2.1 < 256) ∧ -9223372036854775808 ≤ (at1 l i).2.2.2.1 ∧ (at1 l i).2.2.2.1 < 9223372036854775808 := by
  have := h (at1 l i) (get_mem (at1_get hi))
  exact ⟨wf_u8 this.2.1, wf_u8 this.2.2.1, wf_i64 this.2.2.2.1⟩

/-! ### Lines -/
def lineR (s : Int) (l : List Ln) (i : Nat) : Bool := !decide ((at0 l i).1 ≥ s) && (!decide ((at0 l i).2.1 < 1) && (Nat.beq i 0 || !decide ((at0 l (i - 1)).1 ≥ (at0 l i).1)))
def linesB (s : Int) (l : List Ln) : Bool := allFrom (lineR s l) 0 l.length && decide ((l.length : Int) ≤ 3)

def lineBody {R : Type} (g : Int → Int) (l : List Ln) (s i : Int) (no yes : Option R) : Option R :=
  nthK l i fun e => bif decide (g e.1 ≥ s) then no else bif decide (e.2.1 < 1) then no else bif decide (i > 0) then nthK l (IntKind.i64.wrap (i - 1)) fun e' => bif decide (e'.1 ≥ e.1) then no else yes else yes

theorem lineBody_val {R : Type} (g : Int → Int) (l : List Ln) (s : Int) (i : Nat) (no yes : Option R) (hi : i < l.length) (hl : l.length < 1000) (hg : g (at0 l i).1 = (at0 l i).1) : lineBody g l s i no yes = bif lineR s l i then yes else no := by
  unfold lineBody lineR
  rw [nthK_get (at_get hi), hg]
  cases decide ((at0 l i).1 ≥ s) with
  | true => rfl
  | false =>
    cases decide ((at0 l i).2.1 < 1) with
    | true => rfl
    | false =>
      cases i with
      | zero => rfl
      | succ i =>
        rw [dec_t (by omega : ((i + 1 : Nat) : Int) > 0), pred_i64 (by omega)]
        simp only [cond_true, cond_false]
        rw [nthK_get (at_get (by omega : i < l.length)), show Nat.beq (i + 1) 0 = false from rfl, Nat.add_sub_cancel]
        cases decide ((at0 l i).1 ≥ (at0 l (i + 1)).1) <;> rfl

theorem wrapL {l : List Ln} (h : ∀ x ∈ l, WfE kLine x) {i : Nat} (hi : i < l.length) : IntKind.i64.wrap (at0 l i).1 = (at0 l i).1 := by
  have := wfL h hi
  exact wrap_i64 (by omega) (by omega)

theorem progLines_val (s : Int) (l : List Ln) (hl : l.length < 1000) (hw : ∀ x ∈ l, WfE kLine x) : prog_lines s l = some (linesB s l) := by
  unfold prog_lines linesB
  have := loop_all (step := prog_lines.l1) (fun i => (s, (l, (l, ((l.length : Int), (i : Int)))))) (lineR s l) (.inl l) (.inr false) l.length (by omega) (fun i hi => by
    have e : prog_lines.l1 (s, (l, (l, ((l.length : Int), (i : Int))))) = bif decide ((i : Int) < (l.length : Int)) then lineBody IntKind.i64.wrap l s i (some (.inr (.inr false))) (some (.inl (s, (l, (l, ((l.length : Int), IntKind.i64.wrap ((i : Int) + 1))))))) else some (.inr (.inl l)) := rfl
    rw [e, dec_t (show (i : Int) < (l.length : Int) by omega), lineBody_val _ l s i _ _ hi hl (wrapL hw hi), succ_i64 (by omega)]
    rfl) (by
    unfold prog_lines.l1
    simp only [dec_f (show ¬ (l.length : Int) < (l.length : Int) by omega), cond_false])
  rw [show (((0 : Nat) : Int)) = 0 from rfl] at this
  rw [this, Option.bind_some]
  cases allFrom (lineR s l) 0 l.length <;> rfl

theorem refLines_val (s : Int) (l : List Ln) (hl : l.length < 1000) (hw : ∀ x ∈ l, WfE kLine x) : pledgeref12_Lines s l = some (linesB s l) := by
  unfold pledgeref12_Lines linesB
  have := loop_all (step := pledgeref12_Lines.l1) (fun i => (s, (l, (i : Int)))) (lineR s l) (.inl l) (.inr false) l.length (by omega) (fun i hi => by
    unfold pledgeref12_Lines.l1
    simp only [dec_t (show (i : Int) < (l.length : Int) by omega), cond_true]
    have e : ∀ (no yes : Option ((Int × List Ln × Int) ⊕ (List Ln ⊕ Bool))), (nthK l (i : Int) fun e6 => bif decide ((IntKind.i64.wrap e6.1) ≥ s) then no else nthK l (i : Int) fun e7 => bif decide (e7.2.1 < 1) then no else bif decide ((i : Int) > 0) then nthK l (IntKind.i64.wrap ((i : Int) - 1)) fun e8 => nthK l (i : Int) fun e9 => bif decide (e8.1 ≥ e9.1) then no else yes else yes) = lineBody IntKind.i64.wrap l s i no yes := by
      intro no yes
      unfold lineBody
      rw [nthK_get (at_get hi), nthK_get (at_get hi), nthK_get (at_get hi)]
      congr 1
      congr 1
      cases i with
      | zero => rfl
      | succ i =>
        rw [dec_t (by omega : ((i + 1 : Nat) : Int) > 0), pred_i64 (by omega)]
        simp only [cond_true]
        rw [nthK_get (at_get (by omega : i < l.length)), nthK_get (at_get (by omega : i < l.length)), nthK_get (at_get hi)]
    rw [e, lineBody_val _ l s i _ _ hi hl (wrapL hw hi), succ_i64 (by omega)]) (by
    unfold pledgeref12_Lines.l1
    simp only [dec_f (show ¬ (l.length : Int) < (l.length : Int) by omega), cond_false])
  rw [show (((0 : Nat) : Int)) = 0 from rfl] at this
  rw [this, Option.bind_some]
  cases allFrom (lineR s l) 0 l.length <;> rfl

/-! ### Takes -/
def tkBase (s w id : Int) (x : Tk) : Bool := !(x.1 != id) && (!decide (x.2.1 ≥ s) && (!decide (x.2.2.1 ≥ w) && !decide (x.2.2.2.1 < 1)))
def tkPrev (y x : Tk) : Bool := !decide (y.2.2.1 > x.2.2.1) && !((y.2.2.1 == x.2.2.1) && decide (y.2.1 ≥ x.2.1))
def takeQ (s w id : Int) (l : List Tk) (i : Nat) : Bool := tkBase s w id (at1 l i) && (Nat.beq i 0 || tkPrev (at1 l (i - 1)) (at1 l i))
def takeR (s w id : Int) (l : List Tk) (i : Nat) : Bool := takeQ s w id l i && (Nat.ble i 2 || !((at1 l (i - 3)).2.2.1 == (at1 l i).2.2.1))
def takesB (s w id : Int) (l : List Tk) : Bool := allFrom (takeR s w id l) 0 l.length && decide ((l.length : Int) ≤ 12)

theorem wrapT {l : List Tk} (h : ∀ x ∈ l, WfE kTake x) {i : Nat} (hi : i < l.length) : IntKind.i64.wrap (at1 l i).2.1 = (at1 l i).2.1 ∧ IntKind.i64.wrap (at1 l i).2.2.1 = (at1 l i).2.2.1 := by
  have := wfT h hi
  exact ⟨wrap_i64 (by omega) (by omega), wrap_i64 (by omega) (by omega)⟩

theorem progTakes_val (s w : Int) (p : Prg) (hl : p.2.2.2.2.1.length < 1000) (hw : ∀ x ∈ p.2.2.2.2.1, WfE kTake x) : prog_takes s w p = some (takesB s w p.2.1 p.2.2.2.2.1) := by
  obtain ⟨kind, id, pol, lines, l, owes, rest⟩ := p
  simp only at hl hw ⊢
  unfold prog_takes takesB
  have := loop_all (step := prog_takes.l1) (fun i => ((s, (w, ((), (l, ((l.length : Int), (i : Int)))))), ((kind, id, pol, lines, l, owes, rest), ()))) (takeR s w id l) (.inl ((), ((kind, id, pol, lines, l, owes, rest), ()))) (.inr false) l.length (by omega) (fun i hi => by
    obtain ⟨w1, w2⟩ := wrapT hw hi
    unfold prog_takes.l1 takeR takeQ tkBase
    simp only [dec_t (show (i : Int) < (l.length : Int) by omega), cond_true]
    have w3 := succ_i64 (show i < 9223372036854775807 by omega)
    rw [nthK_get (at1_get hi), w1, w2]
    cases ((at1 l i).1 != id) with
    | true => rfl
    | false =>
      cases decide ((at1 l i).2.1 ≥ s) with
      | true => rfl
      | false =>
        cases decide ((at1 l i).2.2.1 ≥ w) with
        | true => rfl
        | false =>
          cases decide ((at1 l i).2.2.2.1 < 1) with
          | true => rfl
          | false =>
            simp only [cond_false, Bool.not_false, Bool.true_and]
            -- the one ahead
            have prev : ∀ (no yes : Option (((Int × Int × Unit × List Tk × Int × Int) × Prg × Unit) ⊕ ((Unit × Prg × Unit) ⊕ Bool))), (bif decide ((i : Int) > 0) then nthK l (IntKind.i64.wrap ((i : Int) - 1)) fun e33 => bif decide (e33.2.2.1 > (at1 l i).2.2.1) then no else nthK l (IntKind.i64.wrap ((i : Int) - 1)) fun e34 => bif e34.2.2.1 == (at1 l i).2.2.1 then nthK l (IntKind.i64.wrap ((i : Int) - 1)) fun e35 => bif decide (e35.2.1 ≥ (at1 l i).2.1) then no else yes else yes else yes) =
                bif (Nat.beq i 0 || tkPrev (at1 l (i - 1)) (at1 l i)) then yes else no := by
              intro no yes
              cases i with
              | zero => rfl
              | succ i =>
                rw [dec_t (by omega : ((i + 1 : Nat) : Int) > 0), pred_i64 (by omega)]
                have hi' := at1_get (by omega : i < l.length)
                simp only [cond_true]
                rw [nthK_get hi', nthK_get hi', nthK_get hi', show Nat.beq (i + 1) 0 = false from rfl, Nat.add_sub_cancel]
                unfold tkPrev
                cases decide ((at1 l i).2.2.1 > (at1 l (i + 1)).2.2.1) <;> cases ((at1 l i).2.2.1 == (at1 l (i + 1)).2.2.1) <;> cases decide ((at1 l i).2.1 ≥ (at1 l (i + 1)).2.1) <;> rfl
            by_cases h3 : i ≤ 2
            · rw [dec_f (by omega : ¬ (i : Int) ≥ 3), Nat.ble_eq_true_of_le h3]
              simp only [cond_false, Option.bind_some, w3]
              rw [prev]
              cases (Nat.beq i 0 || tkPrev (at1 l (i - 1)) (at1 l i)) <;> rfl
            · have hw3 : IntKind.i64.wrap ((i : Int) - 3) = ((i - 3 : Nat) : Int) := by rw [wrap_i64 (by omega) (by omega)]; omega
              have hb : Nat.ble i 2 = false := by cases hq : Nat.ble i 2 with
                | false => rfl
                | true => exact absurd (Nat.le_of_ble_eq_true hq) h3
              rw [dec_t (by omega : (i : Int) ≥ 3), hw3, hb]
              simp only [cond_true]
              rw [nthK_get (at1_get (by omega : i - 3 < l.length))]
              cases ((at1 l (i - 3)).2.2.1 == (at1 l i).2.2.1) with
              | true => simp only [cond_true, Option.bind_some]; cases (Nat.beq i 0 || tkPrev (at1 l (i - 1)) (at1 l i)) <;> rfl
              | false =>
                simp only [cond_false, Option.bind_some, w3]
                rw [prev]
                cases (Nat.beq i 0 || tkPrev (at1 l (i - 1)) (at1 l i)) <;> rfl) (by
    unfold prog_takes.l1
    simp only [dec_f (show ¬ (l.length : Int) < (l.length : Int) by omega), cond_false])
  rw [show (((0 : Nat) : Int)) = 0 from rfl] at this
  rw [this, Option.bind_some]
  cases allFrom (takeR s w id l) 0 l.length <;> rfl

theorem refTakes_val (s w : Int) (p : Prg) (hl : p.2.2.2.2.1.length < 1000) (hw : ∀ x ∈ p.2.2.2.2.1, WfE kTake x) : pledgeref13_takes s w p = some (takesB s w p.2.1 p.2.2.2.2.1) := by
  obtain ⟨kind, id, pol, lines, l, owes, rest⟩ := p
  simp only at hl hw ⊢
  unfold pledgeref13_takes takesB
  have := loop_all (step := pledgeref13_takes.l1) (fun i => ((s, (w, ((), (l, (i : Int))))), ((kind, id, pol, lines, l, owes, rest), ()))) (takeR s w id l) (.inl l) (.inr false) l.length (by omega) (fun i hi => by
    obtain ⟨w1, w2⟩ := wrapT hw hi
    have hg := at1_get hi
    unfold pledgeref13_takes.l1 takeR takeQ tkBase
    simp only [dec_t (show (i : Int) < (l.length : Int) by omega), cond_true]
    have w3 := succ_i64 (show i < 9223372036854775807 by omega)
    rw [nthK_get hg, nthK_get hg, nthK_get hg, nthK_get hg, w1, w2]
    cases ((at1 l i).1 != id) with
    | true => rfl
    | false =>
      cases decide ((at1 l i).2.1 ≥ s) with
      | true => rfl
      | false =>
        cases decide ((at1 l i).2.2.1 ≥ w) with
        | true => rfl
        | false =>
          cases decide ((at1 l i).2.2.2.1 < 1) with
          | true => rfl
          | false =>
            simp only [cond_false, Bool.not_false, Bool.true_and]
            -- the one ahead
            have prev : ∀ (R : Type) (no yes : Option R), (bif decide ((i : Int) > 0) then nthK l (IntKind.i64.wrap ((i : Int) - 1)) fun e43 => nthK l (i : Int) fun e44 => bif decide (e43.2.2.1 > e44.2.2.1) then no else nthK l (IntKind.i64.wrap ((i : Int) - 1)) fun e45 => nthK l (i : Int) fun e46 => bif e45.2.2.1 == e46.2.2.1 then nthK l (IntKind.i64.wrap ((i : Int) - 1)) fun e47 => nthK l (i : Int) fun e48 => bif decide (e47.2.1 ≥ e48.2.1) then no else yes else yes else yes) =
                bif (Nat.beq i 0 || tkPrev (at1 l (i - 1)) (at1 l i)) then yes else no := by
              intro R no yes
              cases i with
              | zero => rfl
              | succ i =>
                rw [dec_t (by omega : ((i + 1 : Nat) : Int) > 0), pred_i64 (by omega)]
                have hi' := at1_get (by omega : i < l.length)
                simp only [cond_true]
                rw [nthK_get hi', nthK_get hg, nthK_get hi', nthK_get hg, nthK_get hi', nthK_get hg, show Nat.beq (i + 1) 0 = false from rfl, Nat.add_sub_cancel]
                unfold tkPrev
                cases decide ((at1 l i).2.2.1 > (at1 l (i + 1)).2.2.1) <;> cases ((at1 l i).2.2.1 == (at1 l (i + 1)).2.2.1) <;> cases decide ((at1 l i).2.1 ≥ (at1 l (i + 1)).2.1) <;> rfl
            rw [prev]
            cases (Nat.beq i 0 || tkPrev (at1 l (i - 1)) (at1 l i)) with
            | false => rfl
            | true =>
              simp only [cond_true, Option.bind_some, Bool.true_and]
              by_cases h3 : i ≤ 2
              · rw [dec_f (by omega : ¬ (i : Int) ≥ 3), Nat.ble_eq_true_of_le h3]
                simp only [cond_false, w3, Bool.true_or, cond_true]
              · have hw3 : IntKind.i64.wrap ((i : Int) - 3) = ((i - 3 : Nat) : Int) := by rw [wrap_i64 (by omega) (by omega)]; omega
                have hb : Nat.ble i 2 = false := by cases hq : Nat.ble i 2 with
                  | false => rfl
                  | true => exact absurd (Nat.le_of_ble_eq_true hq) h3
                rw [dec_t (by omega : (i : Int) ≥ 3), hw3, hb]
                simp only [cond_true]
                rw [nthK_get (at1_get (by omega : i - 3 < l.length)), nthK_get hg, w3]
                cases ((at1 l (i - 3)).2.2.1 == (at1 l i).2.2.1) <;> rfl) (by
    unfold pledgeref13_takes.l1
    simp only [dec_f (show ¬ (l.length : Int) < (l.length : Int) by omega), cond_false])
  rw [show (((0 : Nat) : Int)) = 0 from rfl] at this
  rw [this, Option.bind_some]
  cases allFrom (takeR s w id l) 0 l.length <;> rfl
end Go.Proofs.Pure

/- Takes and what is owed are just what is ordered: the program's way and the document's. -/
namespace Go.Proofs.Pure
open Go.Proofs.D Go.Proofs.F

abbrev P4 := List Int × List Int × List Int × List Int
theorem walk4 {α X : Type} (g0 g1 g2 g3 : α → List Int) (fin : P4 → X) : ∀ (l : List α) (i : Nat) (a : P4),
    walkL (fun _ x (a : P4) => .inl (a.1 ++ g0 x, a.2.1 ++ g1 x, a.2.2.1 ++ g2 x, a.2.2.2 ++ g3 x)) fin i l a = fin (a.1 ++ l.flatMap g0, a.2.1 ++ l.flatMap g1, a.2.2.1 ++ l.flatMap g2, a.2.2.2 ++ l.flatMap g3)
  | [], _, _ => by simp [walkL]
  | x :: l, i, a => by simp only [walkL, walk4 g0 g1 g2 g3 fin l (i + 1), List.flatMap_cons, List.append_assoc]

abbrev U5 := Unit × Unit × Unit × Unit × Unit
def u5 : U5 := ((), ((), ((), ((), ()))))
def put4 (a : P4) : List Int × List Int × List Int × List Int × Unit := (a.1, (a.2.1, (a.2.2.1, (a.2.2.2, ()))))

theorem four {n : Int} (h : 0 ≤ n ∧ n < 4) : n = 0 ∨ n = 1 ∨ n = 2 ∨ n = 3 := by omega

theorem covered_l1 (p : Prg) (t : List Tk) (ht : t.length < 100000) (hs : ∀ x ∈ t, 0 ≤ x.2.1 ∧ x.2.1 < 4) :
    iterL prog_covered.l1 loopN (((), ((), (t, ((t.length : Int), 0)))), (p, (u5, put4 ([], [], [], [])))) = some (((), ()), (p, (u5, put4 (t.flatMap (ofTake 0), t.flatMap (ofTake 1), t.flatMap (ofTake 2), t.flatMap (ofTake 3))))) := by
  have := loop_walk (step := prog_covered.l1) t (fun i (a : P4) => (((), ((), (t, ((t.length : Int), (i : Int))))), (p, (u5, put4 a)))) (fun _ x a => .inl (a.1 ++ ofTake 0 x, a.2.1 ++ ofTake 1 x, a.2.2.1 ++ ofTake 2 x, a.2.2.2 ++ ofTake 3 x))
    (fun a => (((), ()), (p, (u5, put4 a)))) (fun i a => a.1.length ≤ i ∧ a.2.1.length ≤ i ∧ a.2.2.1.length ≤ i ∧ a.2.2.2.length ≤ i) ([], [], [], []) (by omega) (by simp) (fun i x a hx hI => by
    have hi := get_lt hx
    have h0 := hs x (get_mem hx)
    obtain ⟨i1, i2, i3, i4⟩ := hI
    refine ⟨?_, fun _ h => by
      cases h
      have q0 := ofTake_len 0 x; have q1 := ofTake_len 1 x; have q2 := ofTake_len 2 x; have q3 := ofTake_len 3 x
      simp only [List.length_append]; omega⟩
    unfold prog_covered.l1 put4
    simp only [dec_t (show (i : Int) < (t.length : Int) by omega), cond_true]
    rw [nthK_get hx, succ_i64 (by omega)]
    obtain ⟨id, sku, ware, qty, u⟩ := x
    simp only at h0 ⊢
    rcases four h0 with e | e | e | e <;> subst e
    · show room (a.1.length + [qty].length) _ = _
      rw [room_ok (by simp; omega)]
      unfold ofTake
      simp only [show ((0 : Int) == 0) = true by decide, show ((0 : Int) == 1) = false by decide, show ((0 : Int) == 2) = false by decide, show ((0 : Int) == 3) = false by decide, cond_true, cond_false, List.append_nil]
    · show room (a.2.1.length + [qty].length) _ = _
      rw [room_ok (by simp; omega)]
      unfold ofTake
      simp only [show ((1 : Int) == 0) = false by decide, show ((1 : Int) == 1) = true by decide, show ((1 : Int) == 2) = false by decide, show ((1 : Int) == 3) = false by decide, cond_true, cond_false, List.append_nil]
    · show room (a.2.2.1.length + [qty].length) _ = _
      rw [room_ok (by simp; omega)]
      unfold ofTake
      simp only [show ((2 : Int) == 0) = false by decide, show ((2 : Int) == 1) = false by decide, show ((2 : Int) == 2) = true by decide, show ((2 : Int) == 3) = false by decide, cond_true, cond_false, List.append_nil]
    · show room (a.2.2.2.length + [qty].length) _ = _
      rw [room_ok (by simp; omega)]
      unfold ofTake
      simp only [show ((3 : Int) == 0) = false by decide, show ((3 : Int) == 1) = false by decide, show ((3 : Int) == 2) = false by decide, show ((3 : Int) == 3) = true by decide, cond_true, cond_false, List.append_nil]) (fun a _ => by
    unfold prog_covered.l1
    simp only [dec_f (show ¬ (t.length : Int) < (t.length : Int) by omega), cond_false])
  rw [show (((0 : Nat) : Int)) = 0 from rfl] at this
  rw [this, walk4]
  simp only [List.nil_append]

theorem covered_l2 (p : Prg) (t : List Ln) (a0 : P4) (h0 : a0.1.length < 100000 ∧ a0.2.1.length < 100000 ∧ a0.2.2.1.length < 100000 ∧ a0.2.2.2.length < 100000) (ht : t.length < 100000) (hs : ∀ x ∈ t, 0 ≤ x.1 ∧ x.1 < 4) :
    iterL prog_covered.l2 loopN (((), ((), (t, ((t.length : Int), 0)))), (p, (u5, put4 a0))) = some (((), ()), (p, (u5, put4 (a0.1 ++ t.flatMap (ofLine 0), a0.2.1 ++ t.flatMap (ofLine 1), a0.2.2.1 ++ t.flatMap (ofLine 2), a0.2.2.2 ++ t.flatMap (ofLine 3))))) := by
  have := loop_walk (step := prog_covered.l2) t (fun i (a : P4) => (((), ((), (t, ((t.length : Int), (i : Int))))), (p, (u5, put4 a)))) (fun _ x a => .inl (a.1 ++ ofLine 0 x, a.2.1 ++ ofLine 1 x, a.2.2.1 ++ ofLine 2 x, a.2.2.2 ++ ofLine 3 x))
    (fun a => (((), ()), (p, (u5, put4 a)))) (fun i a => a.1.length ≤ i + 100000 ∧ a.2.1.length ≤ i + 100000 ∧ a.2.2.1.length ≤ i + 100000 ∧ a.2.2.2.length ≤ i + 100000) a0 (by omega) (by omega) (fun i x a hx hI => by
    have hi := get_lt hx
    have h0 := hs x (get_mem hx)
    obtain ⟨i1, i2, i3, i4⟩ := hI
    refine ⟨?_, fun _ h => by
      cases h
      have q0 := ofLine_len 0 x; have q1 := ofLine_len 1 x; have q2 := ofLine_len 2 x; have q3 := ofLine_len 3 x
      simp only [List.length_append]; omega⟩
    unfold prog_covered.l2 put4
    simp only [dec_t (show (i : Int) < (t.length : Int) by omega), cond_true]
    rw [nthK_get hx, succ_i64 (by omega)]
    obtain ⟨sku, qty, u⟩ := x
    simp only at h0 ⊢
    rcases four h0 with e | e | e | e <;> subst e
    · show room (a.1.length + [qty].length) _ = _
      rw [room_ok (by simp; omega)]
      unfold ofLine
      simp only [show ((0 : Int) == 0) = true by decide, show ((0 : Int) == 1) = false by decide, show ((0 : Int) == 2) = false by decide, show ((0 : Int) == 3) = false by decide, cond_true, cond_false, List.append_nil]
    · show room (a.2.1.length + [qty].length) _ = _
      rw [room_ok (by simp; omega)]
      unfold ofLine
      simp only [show ((1 : Int) == 0) = false by decide, show ((1 : Int) == 1) = true by decide, show ((1 : Int) == 2) = false by decide, show ((1 : Int) == 3) = false by decide, cond_true, cond_false, List.append_nil]
    · show room (a.2.2.1.length + [qty].length) _ = _
      rw [room_ok (by simp; omega)]
      unfold ofLine
      simp only [show ((2 : Int) == 0) = false by decide, show ((2 : Int) == 1) = false by decide, show ((2 : Int) == 2) = true by decide, show ((2 : Int) == 3) = false by decide, cond_true, cond_false, List.append_nil]
    · show room (a.2.2.2.length + [qty].length) _ = _
      rw [room_ok (by simp; omega)]
      unfold ofLine
      simp only [show ((3 : Int) == 0) = false by decide, show ((3 : Int) == 1) = false by decide, show ((3 : Int) == 2) = false by decide, show ((3 : Int) == 3) = true by decide, cond_true, cond_false, List.append_nil]) (fun a _ => by
    unfold prog_covered.l2
    simp only [dec_f (show ¬ (t.length : Int) < (t.length : Int) by omega), cond_false])
  rw [show (((0 : Nat) : Int)) = 0 from rfl] at this
  rw [this, walk4]

def wantOf (l : List Ln) : List Int := l.foldl (fun a x => a.set x.1.toNat x.2.1) (List.replicate 4 0)
theorem walk_fold {α A X : Type} (h : A → α → A) (fin : A → X) : ∀ (l : List α) (i : Nat) (a : A), walkL (fun _ x a => .inl (h a x)) fin i l a = fin (l.foldl h a)
  | [], _, _ => rfl
  | x :: l, i, a => by simp only [walkL, walk_fold h fin l (i + 1), List.foldl_cons]

theorem covered_l3 (t : List Ln) (a0 : P4) (ht : t.length < 100000) (hs : ∀ x ∈ t, 0 ≤ x.1 ∧ x.1 < 4) :
    iterL prog_covered.l3 loopN (((), ((), (t, ((t.length : Int), 0)))), (u5, (List.replicate 4 0, put4 a0))) = some (((), ()), (u5, (wantOf t, put4 a0))) := by
  have := loop_walk (step := prog_covered.l3) t (fun i (a : List Int) => (((), ((), (t, ((t.length : Int), (i : Int))))), (u5, (a, put4 a0)))) (fun _ x a => .inl (a.set x.1.toNat x.2.1))
    (fun a => (((), ()), (u5, (a, put4 a0)))) (fun i a => a.length = 4) (List.replicate 4 0) (by omega) (by simp) (fun i x a hx hI => by
    have hi := get_lt hx
    have h0 := hs x (get_mem hx)
    refine ⟨?_, fun _ h => by cases h; simpa using hI⟩
    unfold prog_covered.l3
    simp only [dec_t (show (i : Int) < (t.length : Int) by omega), cond_true]
    rw [nthK_get hx, succ_i64 (by omega), chk_true (by rw [dec_t h0.1, dec_t h0.2]; rfl)]
    obtain ⟨sku, qty, u⟩ := x
    obtain ⟨n, rfl⟩ := Int.eq_ofNat_of_zero_le h0.1
    simp only at h0
    show nthN a n _ = _
    rw [nthN_get (List.getElem?_eq_getElem (by omega : n < a.length))]
    rfl) (fun a _ => by
    unfold prog_covered.l3
    simp only [dec_f (show ¬ (t.length : Int) < (t.length : Int) by omega), cond_false])
  rw [show (((0 : Nat) : Int)) = 0 from rfl] at this
  rw [this, walk_fold]
  rfl

/-- Of one article: the parts come to what is wanted. -/
def coverK (a : List Int) (n : Int) : Bool := (sumOf a).2.1 && !((sumOf a).1 != n)
def coverP (a : P4) (w : List Int) : Bool := coverK a.1 (w.getD 0 0) && (coverK a.2.1 (w.getD 1 0) && (coverK a.2.2.1 (w.getD 2 0) && coverK a.2.2.2 (w.getD 3 0)))

theorem covered_step (a : P4) (w : List Int) (hw : w.length = 4) (k : Nat) (hk : k < 4) (q : List Int) (hq : q = [a.1, a.2.1, a.2.2.1, a.2.2.2].getD k []) (hl : q.length < 1000000) (hf : ∀ n ∈ q, -9223372036854775808 ≤ n ∧ n < 9223372036854775808) :
    prog_covered.l4 (((), (u5, (k : Int))), (w, put4 a)) = bif coverK q (w.getD k 0) then some (.inl (((), (u5, ((k + 1 : Nat) : Int))), (w, put4 a))) else some (.inr (.inr false)) := by
  have hs := sum_all q hl hf
  have hget : w[k]? = some (w.getD k 0) := by rw [List.getD_eq_getElem?_getD, List.getElem?_eq_getElem (by omega)]; rfl
  have fin : ∀ (x : (Unit × U5 × Int) × List Int × List Int × List Int × List Int × List Int × Unit), ((calc_Sum q).bind fun r50 => bif !r50.2.1 then some (Sum.inr (Sum.inr false)) else chk (decide (0 ≤ (k : Int)) && decide ((k : Int) < 4)) (nthK w (k : Int) fun e51 => bif (r50.1 : Int) != e51 then some (Sum.inr (Sum.inr false)) else some (Sum.inl x))) =
      (bif coverK q (w.getD k 0) then some (Sum.inl x) else some (Sum.inr (Sum.inr false)) : Option (_ ⊕ (Unit ⊕ Bool))) := by
    intro x
    rw [hs, Option.bind_some, chk_true (by rw [dec_t (by omega : 0 ≤ (k : Int)), dec_t (by omega : (k : Int) < 4)]; rfl), nthK_get hget]
    unfold coverK
    cases (sumOf q).2.1 <;> cases ((sumOf q).1 != w.getD k 0) <;> rfl
  have hw1 := succ_i64 (show k < 9223372036854775807 by omega)
  rw [← hw1, ← fin]
  subst hq
  match k, hk with
  | 0, _ => rfl
  | 1, _ => rfl
  | 2, _ => rfl
  | 3, _ => rfl

theorem covered_l4 (a : P4) (w : List Int) (hw : w.length = 4) (hl : ∀ q ∈ [a.1, a.2.1, a.2.2.1, a.2.2.2], q.length < 1000000 ∧ ∀ n ∈ q, -9223372036854775808 ≤ n ∧ n < 9223372036854775808) :
    iterL prog_covered.l4 loopN (((), (u5, 0)), (w, put4 a)) = some (bif coverP a w then .inl () else .inr false) := by
  have h0 := hl a.1 (by simp)
  have h1 := hl a.2.1 (by simp)
  have h2 := hl a.2.2.1 (by simp)
  have h3 := hl a.2.2.2 (by simp)
  have s0 := covered_step a w hw 0 (by omega) a.1 rfl h0.1 h0.2
  have s1 := covered_step a w hw 1 (by omega) a.2.1 rfl h1.1 h1.2
  have s2 := covered_step a w hw 2 (by omega) a.2.2.1 rfl h2.1 h2.2
  have s3 := covered_step a w hw 3 (by omega) a.2.2.2 rfl h3.1 h3.2
  have s4 : prog_covered.l4 (((), (u5, ((4 : Nat) : Int))), (w, put4 a)) = some (.inr (.inl ())) := rfl
  refine iterL_mono (n := 5) ?_ (by rw [loopN_eq]; omega)
  unfold coverP
  rw [show (0 : Int) = ((0 : Nat) : Int) from rfl]
  cases c0 : coverK a.1 (w.getD 0 0) with
  | false => rw [c0] at s0; exact iterL_done s0
  | true =>
    rw [c0] at s0
    rw [iterL_next s0]
    cases c1 : coverK a.2.1 (w.getD 1 0) with
    | false => rw [c1] at s1; exact iterL_done s1
    | true =>
      rw [c1] at s1
      rw [iterL_next s1]
      cases c2 : coverK a.2.2.1 (w.getD 2 0) with
      | false => rw [c2] at s2; exact iterL_done s2
      | true =>
        rw [c2] at s2
        rw [iterL_next s2]
        cases c3 : coverK a.2.2.2 (w.getD 3 0) with
        | false => rw [c3] at s3; exact iterL_done s3
        | true =>
          rw [c3] at s3
          rw [iterL_next s3]
          exact iterL_done s4

/-- The parts of each article, what is wanted of it. -/
def partsOf (t : List Tk) (l : List Ln) : P4 := (namedOf 0 t l, namedOf 1 t l, namedOf 2 t l, namedOf 3 t l)
def coveredB (t : List Tk) (owes lines : List Ln) : Bool := coverP (partsOf t owes) (wantOf lines)

theorem wantOf_len : ∀ (l : List Ln) (a : List Int), a.length = 4 → (l.foldl (fun a x => a.set x.1.toNat x.2.1) a).length = 4
  | [], a, h => h
  | x :: l, a, h => by rw [List.foldl_cons]; exact wantOf_len l _ (by simpa using h)

theorem progCovered_val (p : Prg) (h1 : p.2.2.2.1.length < 100000) (h2 : p.2.2.2.2.1.length < 100000) (h3 : p.2.2.2.2.2.1.length < 100000) (w2 : ∀ x ∈ p.2.2.2.2.1, WfE kTake x) (w3 : ∀ x ∈ p.2.2.2.2.2.1, WfE kLine x)
    (g1 : ∀ x ∈ p.2.2.2.1, 0 ≤ x.1 ∧ x.1 < 4) (g2 : ∀ x ∈ p.2.2.2.2.1, 0 ≤ x.2.1 ∧ x.2.1 < 4) (g3 : ∀ x ∈ p.2.2.2.2.2.1, 0 ≤ x.1 ∧ x.1 < 4) : prog_covered p = some (coveredB p.2.2.2.2.1 p.2.2.2.2.2.1 p.2.2.2.1) := by
  have e0 := flat_len (ofTake_len 0) p.2.2.2.2.1
  have e1 := flat_len (ofTake_len 1) p.2.2.2.2.1
  have e2 := flat_len (ofTake_len 2) p.2.2.2.2.1
  have e3 := flat_len (ofTake_len 3) p.2.2.2.2.1
  have l1 := covered_l1 p p.2.2.2.2.1 h2 g2
  have l2 := covered_l2 p p.2.2.2.2.2.1 (p.2.2.2.2.1.flatMap (ofTake 0), p.2.2.2.2.1.flatMap (ofTake 1), p.2.2.2.2.1.flatMap (ofTake 2), p.2.2.2.2.1.flatMap (ofTake 3)) (by simp only []; omega) h3 g3
  have l3 := covered_l3 p.2.2.2.1 (partsOf p.2.2.2.2.1 p.2.2.2.2.2.1) h1 g1
  have fit : ∀ k : Int, (namedOf k p.2.2.2.2.1 p.2.2.2.2.2.1).length < 1000000 ∧ ∀ n ∈ namedOf k p.2.2.2.2.1 p.2.2.2.2.2.1, -9223372036854775808 ≤ n ∧ n < 9223372036854775808 := fun k => ⟨by have := named_len k p.2.2.2.2.1 p.2.2.2.2.2.1; omega, named_fit k _ _ w2 w3⟩
  have l4 := covered_l4 (partsOf p.2.2.2.2.1 p.2.2.2.2.2.1) (wantOf p.2.2.2.1) (wantOf_len _ _ (by simp)) (fun q hq => by
    unfold partsOf at hq
    simp only [List.mem_cons, List.not_mem_nil, or_false] at hq
    rcases hq with e | e | e | e <;> subst e <;> exact fit _)
  unfold prog_covered
  unfold put4 u5 at l1 l2 l3 l4
  rw [l1, Option.bind_some]
  simp only []
  rw [l2, Option.bind_some]
  simp only []
  unfold partsOf namedOf at l3 l4
  rw [l3, Option.bind_some]
  simp only []
  rw [l4, Option.bind_some]
  unfold coveredB partsOf namedOf
  cases coverP _ (wantOf p.2.2.2.1) <;> rfl

/-! ### The document's way -/
theorem allFrom_at {p : Nat → Bool} {k : Nat} (h : allFrom p 0 k = true) {j : Nat} (hj : j < k) : p j = true := (allFrom_iff.1 h) j (by omega) (by omega)

theorem linesB_lt {s : Int} {l : List Ln} (h : linesB s l = true) : ∀ x ∈ l, x.1 < s ∧ 1 ≤ x.2.1 := by
  unfold linesB at h
  simp only [Bool.and_eq_true, decide_eq_true_eq] at h
  intro x hx
  obtain ⟨i, hi, e⟩ := List.getElem_of_mem hx
  have := allFrom_at h.1 hi
  unfold lineR at this
  have ea : at0 l i = x := by unfold at0; rw [List.getD_eq_getElem?_getD, List.getElem?_eq_getElem hi, e]; rfl
  rw [ea] at this
  simp only [Bool.and_eq_true, Bool.not_eq_true', decide_eq_false_iff_not] at this
  omega

theorem linesB_shape {s : Int} {l : List Ln} (h : linesB s l = true) : l = [] ∨ (∃ a, l = [a]) ∨ (∃ a b, l = [a, b] ∧ a.1 < b.1) ∨ (∃ a b c, l = [a, b, c] ∧ a.1 < b.1 ∧ b.1 < c.1) := by
  have h0 := h
  unfold linesB at h
  simp only [Bool.and_eq_true, decide_eq_true_eq] at h
  obtain ⟨ha, hl⟩ := h
  match l, ha, hl with
  | [], _, _ => exact .inl rfl
  | [a], _, _ => exact .inr (.inl ⟨a, rfl⟩)
  | [a, b], ha, _ =>
    have h1 := allFrom_at ha (show 1 < 2 by omega)
    simp only [lineR, Bool.and_eq_true, Bool.or_eq_true, Bool.not_eq_true', decide_eq_false_iff_not] at h1
    have h2 : ¬ a.1 ≥ b.1 := by rcases h1.2.2 with q | q; cases q; exact q
    exact .inr (.inr (.inl ⟨a, b, rfl, by omega⟩))
  | [a, b, c], ha, _ =>
    have h1 := allFrom_at ha (show 1 < 3 by omega)
    have h3 := allFrom_at ha (show 2 < 3 by omega)
    simp only [lineR, Bool.and_eq_true, Bool.or_eq_true, Bool.not_eq_true', decide_eq_false_iff_not] at h1 h3
    have h2 : ¬ a.1 ≥ b.1 := by rcases h1.2.2 with q | q; cases q; exact q
    have h4 : ¬ b.1 ≥ c.1 := by rcases h3.2.2 with q | q; cases q; exact q
    exact .inr (.inr (.inr ⟨a, b, c, rfl, by omega, by omega⟩))
  | a :: b :: c :: d :: l, _, hl => simp only [List.length_cons] at hl; omega

theorem sumOf_nil : sumOf [] = (0, (true, ())) := rfl
theorem sumOf_one {q : Int} (h : -9223372036854775808 ≤ q ∧ q < 9223372036854775808) : sumOf [q] = (q, (true, ())) := by
  unfold sumOf fitsI total total
  rw [Int.add_zero, dec_t h.1, dec_t h.2]; rfl

theorem set_at (l : List Int) (n k : Nat) (q : Int) (hl : l.length = 4) (hn : n < 4) : (l.set n q).getD k 0 = if n = k then q else l.getD k 0 := by
  rw [List.getD_eq_getElem?_getD, List.getElem?_set]
  by_cases h : n = k
  · subst h; simp [hl, hn]
  · simp [h]

theorem want_line {s : Int} {l : List Ln} (h : linesB s l = true) (hs : s ≤ 4) (hw : ∀ x ∈ l, WfE kLine x) (k : Nat) (hk : k < 4) : sumOf (l.flatMap (ofLine k)) = ((wantOf l).getD k 0, (true, ())) := by
  have hlt := linesB_lt h
  have hz : (List.replicate 4 (0 : Int)).getD k 0 = 0 := by
    match k, hk with
    | 0, _ => rfl
    | 1, _ => rfl
    | 2, _ => rfl
    | 3, _ => rfl
  have hb : ∀ x ∈ l, (0 ≤ x.1 ∧ x.1 < 4) ∧ -9223372036854775808 ≤ x.2.1 ∧ x.2.1 < 9223372036854775808 := fun x hx => by
    have q1 := hlt x hx
    have q2 := wf_u8 (hw x hx).1
    exact ⟨⟨q2.1, by omega⟩, wf_i64 (hw x hx).2.1⟩
  have eqk : ∀ x : Ln, 0 ≤ x.1 → ((x.1 == (k : Int)) = decide (x.1.toNat = k)) := fun x h0 => by
    by_cases q : x.1 = (k : Int)
    · rw [dec_t (by omega), beq_iff_eq]; exact q
    · rw [dec_f (by omega), beq_eq_false_iff_ne]; exact q
  rcases linesB_shape h with e | ⟨a, e⟩ | ⟨a, b, e, h1⟩ | ⟨a, b, c, e, h1, h2⟩ <;> subst e
  · show sumOf [] = ((List.replicate 4 (0 : Int)).getD k 0, (true, ()))
    rw [hz]; rfl
  · have ha := hb a (by simp)
    simp only [wantOf, List.foldl_cons, List.foldl_nil, List.flatMap_cons, List.flatMap_nil, List.append_nil]
    rw [set_at _ _ _ _ (by simp) (by omega), hz]
    unfold ofLine
    rw [eqk a ha.1.1]
    by_cases q : a.1.toNat = k
    · rw [dec_t q, if_pos q]; exact sumOf_one ha.2
    · rw [dec_f q, if_neg q]; rfl
  · have ha := hb a (by simp)
    have hb' := hb b (by simp)
    simp only [wantOf, List.foldl_cons, List.foldl_nil, List.flatMap_cons, List.flatMap_nil, List.append_nil]
    rw [set_at _ _ _ _ (by simp) (by omega), set_at _ _ _ _ (by simp) (by omega), hz]
    unfold ofLine
    rw [eqk a ha.1.1, eqk b hb'.1.1]
    by_cases q : a.1.toNat = k
    · rw [dec_t q, if_pos q, dec_f (by omega : ¬ b.1.toNat = k), if_neg (by omega)]; exact sumOf_one ha.2
    · rw [dec_f q, if_neg q]
      by_cases r : b.1.toNat = k
      · rw [dec_t r, if_pos r]; exact sumOf_one hb'.2
      · rw [dec_f r, if_neg r]; rfl
  · have ha := hb a (by simp)
    have hb' := hb b (by simp)
    have hc := hb c (by simp)
    simp only [wantOf, List.foldl_cons, List.foldl_nil, List.flatMap_cons, List.flatMap_nil, List.append_nil]
    rw [set_at _ _ _ _ (by simp) (by omega), set_at _ _ _ _ (by simp) (by omega), set_at _ _ _ _ (by simp) (by omega), hz]
    unfold ofLine
    rw [eqk a ha.1.1, eqk b hb'.1.1, eqk c hc.1.1]
    by_cases q : a.1.toNat = k
    · rw [dec_t q, if_pos q, dec_f (by omega : ¬ b.1.toNat = k), if_neg (by omega), dec_f (by omega : ¬ c.1.toNat = k), if_neg (by omega)]; exact sumOf_one ha.2
    · rw [dec_f q, if_neg q]
      by_cases r : b.1.toNat = k
      · rw [dec_t r, if_pos r, dec_f (by omega : ¬ c.1.toNat = k), if_neg (by omega)]; exact sumOf_one hb'.2
      · rw [dec_f r, if_neg r]
        by_cases t : c.1.toNat = k
        · rw [dec_t t, if_pos t]; exact sumOf_one hc.2
        · rw [dec_f t, if_neg t]; rfl

theorem refCovered_val (p : Prg) {s : Int} (hs : s ≤ 4) (hL : linesB s p.2.2.2.1 = true) (h1 : p.2.2.2.1.length < 100000) (h2 : p.2.2.2.2.1.length < 100000) (h3 : p.2.2.2.2.2.1.length < 100000)
    (w1 : ∀ x ∈ p.2.2.2.1, WfE kLine x) (w2 : ∀ x ∈ p.2.2.2.2.1, WfE kTake x) (w3 : ∀ x ∈ p.2.2.2.2.2.1, WfE kLine x) : pledgeref13_covered p = some (coveredB p.2.2.2.2.1 p.2.2.2.2.2.1 p.2.2.2.1) := by
  have step : ∀ k : Nat, k < 4 → pledgeref13_covered.l1 (((), (k : Int)), (p, ())) = bif coverK (namedOf k p.2.2.2.2.1 p.2.2.2.2.2.1) ((wantOf p.2.2.2.1).getD k 0) then some (.inl (((), ((k + 1 : Nat) : Int)), (p, ()))) else some (.inr (.inr false)) := by
    intro k hk
    unfold pledgeref13_covered.l1
    have e : IntKind.u8.wrap (k : Int) = (k : Int) := wrap_u8 (by omega) (by omega)
    simp only [dec_t (by omega : (k : Int) < 4), cond_true, e]
    rw [refNamed_val _ _ _ (by omega) (by omega) w2 w3, Option.bind_some, refNamed_val _ _ _ (by simp) (by omega) (by simp) w1, Option.bind_some]
    have en : namedOf (k : Int) [] p.2.2.2.1 = p.2.2.2.1.flatMap (ofLine k) := rfl
    rw [en, want_line hL hs w1 k hk, succ_i64 (by omega)]
    unfold coverK
    cases (sumOf (namedOf (k : Int) p.2.2.2.2.1 p.2.2.2.2.2.1)).2.1 <;> cases ((sumOf (namedOf (k : Int) p.2.2.2.2.1 p.2.2.2.2.2.1)).1 != (wantOf p.2.2.2.1).getD k 0) <;> rfl
  have run := loop_all (step := pledgeref13_covered.l1) (fun k => (((), (k : Int)), (p, ()))) (fun k => coverK (namedOf k p.2.2.2.2.1 p.2.2.2.2.2.1) ((wantOf p.2.2.2.1).getD k 0)) (.inl ()) (.inr false) 4 (by omega) (fun k hk => step k hk) rfl
  rw [show (((0 : Nat) : Int)) = 0 from rfl] at run
  have ec : allFrom (fun k => coverK (namedOf k p.2.2.2.2.1 p.2.2.2.2.2.1) ((wantOf p.2.2.2.1).getD k 0)) 0 4 = coveredB p.2.2.2.2.1 p.2.2.2.2.2.1 p.2.2.2.1 := by
    unfold coveredB coverP partsOf
    simp only [allFrom, Bool.and_true]
    rfl
  rw [ec] at run
  unfold pledgeref13_covered
  rw [run, Option.bind_some]
  cases coveredB p.2.2.2.2.1 p.2.2.2.2.2.1 p.2.2.2.1 <;> rfl
end Go.Proofs.Pure

/- Which takes of a restock may be: the program's way and the document's. -/
namespace Go.Proofs.Pure
open Go.Proofs.D Go.Proofs.F

abbrev Seen := List (Int × Int)
abbrev gM (m : Seen) (o : Int) : Int := getM (.int .u32) (.int .i64) m o
abbrev pM (m : Seen) (o v : Int) : Seen := putM (.int .u32) (.int .i64) m o v

theorem gM_same (o v : Int) : ∀ m : Seen, gM (pM m o v) o = v
  | [] => by
    show (bif eqE (.int .u32) o o then v else _) = v
    rw [show eqE (.int .u32) o o = true by simp [eqE]]; rfl
  | e :: m => by
    show gM (bif eqE (.int .u32) o e.1 then (o, v) :: m else e :: pM m o v) o = v
    cases h : eqE (.int .u32) o e.1 with
    | true =>
      show (bif eqE (.int .u32) o o then v else _) = v
      rw [show eqE (.int .u32) o o = true by simp [eqE]]; rfl
    | false =>
      show (bif eqE (.int .u32) o e.1 then e.2 else gM (pM m o v) o) = v
      rw [h]; exact gM_same o v m
theorem gM_other {o q : Int} (v : Int) (hne : o ≠ q) : ∀ m : Seen, gM (pM m o v) q = gM m q
  | [] => by
    show (bif eqE (.int .u32) q o then v else _) = _
    rw [show eqE (.int .u32) q o = false by simp [eqE]; exact fun h => hne h.symm]; rfl
  | e :: m => by
    show gM (bif eqE (.int .u32) o e.1 then (o, v) :: m else e :: pM m o v) q = (bif eqE (.int .u32) q e.1 then e.2 else gM m q)
    cases h : eqE (.int .u32) o e.1 with
    | true =>
      have he : o = e.1 := by simpa [eqE] using h
      show (bif eqE (.int .u32) q o then v else gM m q) = _
      rw [← he, show eqE (.int .u32) q o = false by simp [eqE]; exact fun h => hne h.symm]; rfl
    | false =>
      show (bif eqE (.int .u32) q e.1 then e.2 else gM (pM m o v) q) = _
      rw [gM_other v hne m]

def seenAt (l : List Tk) : Nat → Seen
  | 0 => [] | i + 1 => pM (seenAt l i) (at1 l i).1 (IntKind.i64.wrap (gM (seenAt l i) (at1 l i).1 + 1))
def cnt (l : List Tk) (o : Int) : Nat → Nat
  | 0 => 0 | i + 1 => cnt l o i + bif (at1 l i).1 == o then 1 else 0
theorem cnt_le (l : List Tk) (o : Int) : ∀ i, cnt l o i ≤ i
  | 0 => Nat.le_refl _ | i + 1 => by have := cnt_le l o i; simp only [cnt]; cases ((at1 l i).1 == o) <;> simp <;> omega

theorem seen_cnt (l : List Tk) : ∀ (i : Nat), i < 1000 → ∀ o, gM (seenAt l i) o = (cnt l o i : Int)
  | 0, _, o => rfl
  | i + 1, h, o => by
    have ih := seen_cnt l i (by omega)
    simp only [seenAt, cnt]
    by_cases q : (at1 l i).1 = o
    · rw [q, gM_same, ih o, show (o == o) = true by simp, wrap_i64 (by have := cnt_le l o i; omega) (by have := cnt_le l o i; omega)]
      simp
    · rw [gM_other _ q, ih o, show ((at1 l i).1 == o) = false by rw [beq_eq_false_iff_ne]; exact q]
      simp

/-- None ahead is of the same order. -/
def alone (l : List Tk) (i : Nat) : Bool := allFrom (fun k => !((at1 l k).1 == (at1 l i).1)) 0 i
theorem cnt_zero (l : List Tk) (o : Int) : ∀ i, cnt l o i = 0 ↔ ∀ k, k < i → ((at1 l k).1 == o) = false
  | 0 => by simp [cnt]
  | i + 1 => by
    simp only [cnt]
    constructor
    · intro h k hk
      have h1 : cnt l o i = 0 := by omega
      by_cases e : k = i
      · subst e
        cases q : ((at1 l k).1 == o) with
        | false => rfl
        | true => rw [q] at h; simp at h
      · exact (cnt_zero l o i).1 h1 k (by omega)
    · intro h
      rw [(cnt_zero l o i).2 fun k hk => h k (by omega), h i (by omega)]
      rfl
theorem alone_cnt (l : List Tk) (i : Nat) : alone l i = decide (cnt l (at1 l i).1 i = 0) := boolEq (by
  unfold alone
  rw [allFrom_iff, decide_eq_true_eq, cnt_zero]
  constructor
  · intro h k hk; have := h k (by omega) (by omega); simpa using this
  · intro h k _ hk; have := h k (by omega); simpa using this)

def fillR (p : Prg) (l : List Tk) (i : Nat) : Bool := alone l i && (!((at1 l i).1 == 0) && (!((at1 l i).2.1 != p.2.2.2.2.2.2.1) && (!((at1 l i).2.2.1 != p.2.2.2.2.2.2.2.2.1) && !decide ((at1 l i).2.2.2.1 < 1))))
def qtyOf (t : Tk) : Int := t.2.2.2.1
def fillsB (p : Prg) : Bool := allFrom (fillR p p.2.2.2.2.1) 0 p.2.2.2.2.1.length && (decide ((p.2.2.2.2.1.length : Int) ≤ 12) && ((sumOf (p.2.2.2.2.1.map qtyOf)).2.1 && decide ((sumOf (p.2.2.2.2.1.map qtyOf)).1 ≤ p.2.2.2.2.2.2.2.2.2.1)))

theorem flat_single : ∀ t : List Tk, t.flatMap (fun y => [qtyOf y]) = t.map qtyOf
  | [] => rfl
  | a :: t => by rw [List.flatMap_cons, flat_single t]; rfl
theorem flat_same {k : Int} : ∀ {t : List Tk}, (∀ x ∈ t, x.2.1 = k) → t.flatMap (ofTake k) = t.map qtyOf
  | [], _ => rfl
  | a :: t, h => by
    rw [List.flatMap_cons, flat_same fun x hx => h x (List.mem_cons_of_mem _ hx)]
    have h1 : ofTake k a = [qtyOf a] := by
      unfold ofTake
      rw [h a List.mem_cons_self, show (k == k) = true by simp]; rfl
    rw [h1]; rfl

theorem together_val (t : List Tk) (ht : t.length < 1000) (hw : ∀ x ∈ t, WfE kTake x) : prog_together t = some (sumOf (t.map qtyOf)) := by
  unfold prog_together
  have := loop_walk (step := prog_together.l1) t (fun i (acc : List Int) => (((), (t, ((t.length : Int), (i : Int)))), (acc, ()))) (fun _ y acc => .inl (acc ++ [qtyOf y])) (fun acc => ((), (acc, ()))) (fun i acc => acc.length ≤ i) [] (by omega) (by simp) (fun i y acc hx hI => by
    have hi := get_lt hx
    refine ⟨?_, fun _ h => by cases h; simp only [List.length_append, List.length_singleton]; omega⟩
    unfold prog_together.l1
    simp only [dec_t (show (i : Int) < (t.length : Int) by omega), cond_true]
    rw [nthK_get hx, room_ok (by simp; omega), succ_i64 (by omega)]
    rfl) (fun acc _ => by
    unfold prog_together.l1
    simp only [dec_f (show ¬ (t.length : Int) < (t.length : Int) by omega), cond_false])
  rw [show (((0 : Nat) : Int)) = 0 from rfl] at this
  rw [this, walk_gather, List.nil_append, Option.bind_some]
  simp only [flat_single]
  rw [sum_all _ (by simp; omega) (fun n hn => by
    obtain ⟨x, hx, e⟩ := List.mem_map.1 hn
    subst e; exact wfTake (hw x hx))]
  rfl

theorem progFills_val (p : Prg) (hl : p.2.2.2.2.1.length < 1000) (hw : ∀ x ∈ p.2.2.2.2.1, WfE kTake x) : prog_fills p = some (fillsB p) := by
  unfold prog_fills fillsB
  generalize hL : p.2.2.2.2.1 = l at *
  have := loop_all (step := prog_fills.l1) (fun i => (((), ((), (l, ((l.length : Int), (i : Int))))), (p, (seenAt l i, ())))) (fillR p l) (.inl ((), (p, ()))) (.inr false) l.length (by omega) (fun i hi => by
    unfold prog_fills.l1 fillR
    simp only [dec_t (show (i : Int) < (l.length : Int) by omega), cond_true]
    rw [nthK_get (at1_get hi), succ_i64 (by omega)]
    have hc := seen_cnt l i (by omega) (at1 l i).1
    have hle := cnt_le l (at1 l i).1 i
    have e1 : getM (.int .u32) (.int .i64) (seenAt l (i + 1)) (at1 l i).1 = (cnt l (at1 l i).1 i : Int) + 1 := by
      show gM (pM (seenAt l i) (at1 l i).1 (IntKind.i64.wrap (gM (seenAt l i) (at1 l i).1 + 1))) (at1 l i).1 = _
      rw [gM_same, hc, wrap_i64 (by omega) (by omega)]
    show (bif decide (getM (.int .u32) (.int .i64) (seenAt l (i + 1)) (at1 l i).1 > 1) then _ else _) = _
    rw [e1, alone_cnt]
    by_cases q : cnt l (at1 l i).1 i = 0
    · rw [dec_t q, dec_f (by omega : ¬ (cnt l (at1 l i).1 i : Int) + 1 > 1)]
      cases ((at1 l i).1 == 0) <;> cases ((at1 l i).2.1 != p.2.2.2.2.2.2.1) <;> cases ((at1 l i).2.2.1 != p.2.2.2.2.2.2.2.2.1) <;> cases decide ((at1 l i).2.2.2.1 < 1) <;> rfl
    · rw [dec_f q, dec_t (by omega : (cnt l (at1 l i).1 i : Int) + 1 > 1)]; rfl) (by
    unfold prog_fills.l1
    simp only [dec_f (show ¬ (l.length : Int) < (l.length : Int) by omega), cond_false])
  rw [show (((0 : Nat) : Int)) = 0 from rfl] at this
  have this' : iterL prog_fills.l1 loopN (((), ((), (l, ((l.length : Int), 0)))), (p, ([], ()))) = _ := this
  rw [this', Option.bind_some]
  cases allFrom (fillR p l) 0 l.length with
  | false => rfl
  | true =>
    simp only [cond_true, hL, Bool.true_and]
    rw [together_val l hl hw, Option.bind_some]
    cases decide ((l.length : Int) ≤ 12) <;> cases (sumOf (l.map qtyOf)).2.1 <;> rfl

theorem refFills_val (p : Prg) (hl : p.2.2.2.2.1.length < 1000) (hw : ∀ x ∈ p.2.2.2.2.1, WfE kTake x) : pledgeref13_fills p = some (fillsB p) := by
  unfold pledgeref13_fills fillsB
  generalize hL : p.2.2.2.2.1 = l at *
  have := loop_all (step := pledgeref13_fills.l1) (fun i => (((), (l, (i : Int))), (p, ()))) (fillR p l) (.inl (((), l), (p, ()))) (.inr false) l.length (by omega) (fun i hi => by
    have hg := at1_get hi
    unfold pledgeref13_fills.l1 fillR
    simp only [dec_t (show (i : Int) < (l.length : Int) by omega), cond_true]
    rw [nthK_get hg, nthK_get hg, nthK_get hg, nthK_get hg]
    have inner := loop_all (step := pledgeref13_fills.l2) (fun k => (((), (l, ((i : Int), (k : Int)))), (p, ()))) (fun k => !((at1 l k).1 == (at1 l i).1)) (.inl (((), (l, (i : Int))), (p, ()))) (.inr false) i (by omega) (fun k hk => by
      unfold pledgeref13_fills.l2
      simp only [dec_t (show (k : Int) < (i : Int) by omega), cond_true]
      rw [nthK_get (at1_get (by omega : k < l.length)), nthK_get hg, succ_i64 (by omega)]
      cases ((at1 l k).1 == (at1 l i).1) <;> rfl) (by
      unfold pledgeref13_fills.l2
      simp only [dec_f (show ¬ (i : Int) < (i : Int) by omega), cond_false])
    rw [show (((0 : Nat) : Int)) = 0 from rfl] at inner
    rw [inner, Option.bind_some]
    have w3 := succ_i64 (show i < 9223372036854775807 by omega)
    unfold alone
    cases ((at1 l i).1 == 0) with
    | true => simp
    | false =>
      cases ((at1 l i).2.1 != p.2.2.2.2.2.2.1) with
      | true => simp
      | false =>
        cases ((at1 l i).2.2.1 != p.2.2.2.2.2.2.2.2.1) with
        | true => simp
        | false =>
          cases decide ((at1 l i).2.2.2.1 < 1) with
          | true => simp
          | false =>
            cases allFrom (fun k => !((at1 l k).1 == (at1 l i).1)) 0 i with
            | false => rfl
            | true => simp only [cond_true, cond_false, w3, Bool.not_false, Bool.and_true]) (by
    unfold pledgeref13_fills.l1
    simp only [dec_f (show ¬ (l.length : Int) < (l.length : Int) by omega), cond_false])
  rw [show (((0 : Nat) : Int)) = 0 from rfl] at this
  rw [this, Option.bind_some]
  cases ha : allFrom (fillR p l) 0 l.length with
  | false => rfl
  | true =>
    simp only [cond_true, Bool.true_and]
    have hsku : ∀ x ∈ l, x.2.1 = p.2.2.2.2.2.2.1 := by
      intro x hx
      obtain ⟨i, hi, e⟩ := List.getElem_of_mem hx
      have h1 := (allFrom_iff.1 ha) i (by omega) (by omega)
      have ea : at1 l i = x := by unfold at1; rw [List.getD_eq_getElem?_getD, List.getElem?_eq_getElem hi, e]; rfl
      unfold fillR at h1
      rw [ea] at h1
      simp only [Bool.and_eq_true, Bool.not_eq_true', bne_eq_false_iff_eq] at h1
      exact h1.2.2.1
    have en : namedOf p.2.2.2.2.2.2.1 l [] = l.map qtyOf := by
      unfold namedOf
      rw [List.flatMap_nil, List.append_nil]
      exact flat_same hsku
    rw [refNamed_val _ l [] (by omega) (by simp) hw (by simp), Option.bind_some, en]
    cases decide ((l.length : Int) ≤ 12) <;> cases (sumOf (l.map qtyOf)).2.1 <;> rfl
end Go.Proofs.Pure

/- Which programs may be. -/
namespace Go.Proofs.Pure
open Go.Proofs.D Go.Proofs.F

def stillB (p : Prg) : Bool := (p.2.2.2.2.2.2.1 == 0) && ((p.2.2.2.2.2.2.2.1 == 0) && ((p.2.2.2.2.2.2.2.2.1 == 0) && (p.2.2.2.2.2.2.2.2.2.1 == 0)))
def bareB (p : Prg) : Bool := (p.2.2.1 == 0) && ((p.2.2.2.1.length : Int) == 0)
theorem still_val (p : Prg) : prog_still p = some (stillB p) := by
  unfold prog_still stillB
  cases (p.2.2.2.2.2.2.1 == 0) <;> cases (p.2.2.2.2.2.2.2.1 == 0) <;> cases (p.2.2.2.2.2.2.2.2.1 == 0) <;> rfl
theorem bare_val (p : Prg) : prog_bare p = some (bareB p) := by
  unfold prog_bare bareB
  cases (p.2.2.1 == 0) <;> rfl

def orderedB (p : Prg) : Bool := (p.2.1 != 0) && stillB p
def movedB (s w : Int) (p : Prg) : Bool := (p.2.1 == 0) && (bareB p && (((p.2.2.2.2.2.1.length : Int) == 0) && (decide (p.2.2.2.2.2.2.1 < s) && (decide (p.2.2.2.2.2.2.2.2.1 < w) && decide (p.2.2.2.2.2.2.2.2.2.1 ≥ 1)))))

def goodKind (s w : Int) (p : Prg) : Bool :=
  bif p.1 == 1 then orderedB p && (decide (p.2.2.1 ≤ 1) && (decide ((p.2.2.2.1.length : Int) > 0) && (linesB s p.2.2.2.1 && (takesB s w p.2.1 p.2.2.2.2.1 && (linesB s p.2.2.2.2.2.1 && (coveredB p.2.2.2.2.1 p.2.2.2.2.2.1 p.2.2.2.1 && ((p.2.2.1 == 0) || ((p.2.2.2.2.2.1.length : Int) == 0))))))))
  else bif p.1 == 2 then orderedB p && (bareB p && (takesB s w p.2.1 p.2.2.2.2.1 && (linesB s p.2.2.2.2.2.1 && decide ((p.2.2.2.2.1.length : Int) + (p.2.2.2.2.2.1.length : Int) > 0))))
  else bif (p.1 == 3) || (p.1 == 4) then orderedB p && (bareB p && (takesB s w p.2.1 p.2.2.2.2.1 && (decide ((p.2.2.2.2.1.length : Int) > 0) && ((p.2.2.2.2.2.1.length : Int) == 0))))
  else bif p.1 == 5 then movedB s w p && ((p.2.2.2.2.2.2.2.1 == 0) && fillsB p)
  else bif p.1 == 6 then movedB s w p && (((p.2.2.2.2.1.length : Int) == 0) && (decide (p.2.2.2.2.2.2.2.1 < w) && (p.2.2.2.2.2.2.2.1 != p.2.2.2.2.2.2.2.2.1)))
  else false
def fineB (s w : Int) : Bool := !decide (s < 1) && (!decide (s > 4) && (!decide (w < 1) && !decide (w > 4)))
def goodP (s w : Int) (p : Prg) : Bool := fineB s w && goodKind s w p

structure Few (p : Prg) : Prop where
  wf : WfE kProgram p
  lines : p.2.2.2.1.length ≤ 100
  takes : p.2.2.2.2.1.length ≤ 100
  owes : p.2.2.2.2.2.1.length ≤ 100

theorem takesB_lt {s w id : Int} {l : List Tk} (h : takesB s w id l = true) : ∀ x ∈ l, x.1 = id ∧ x.2.1 < s ∧ x.2.2.1 < w ∧ 1 ≤ x.2.2.2.1 := by
  unfold takesB at h
  simp only [Bool.and_eq_true, decide_eq_true_eq] at h
  intro x hx
  obtain ⟨i, hi, e⟩ := List.getElem_of_mem hx
  have := allFrom_at h.1 hi
  have ea : at1 l i = x := by unfold at1; rw [List.getD_eq_getElem?_getD, List.getElem?_eq_getElem hi, e]; rfl
  unfold takeR takeQ tkBase at this
  rw [ea] at this
  simp only [Bool.and_eq_true, Bool.not_eq_true', decide_eq_false_iff_not, bne_eq_false_iff_eq] at this
  obtain ⟨⟨⟨h1, h2, h3, h4⟩, _⟩, _⟩ := this
  exact ⟨h1, by omega, by omega, by omega⟩

theorem Few.w1 {p : Prg} (h : Few p) : ∀ x ∈ p.2.2.2.1, WfE kLine x := h.wf.2.2.2.1.2
theorem Few.w2 {p : Prg} (h : Few p) : ∀ x ∈ p.2.2.2.2.1, WfE kTake x := h.wf.2.2.2.2.1.2
theorem Few.w3 {p : Prg} (h : Few p) : ∀ x ∈ p.2.2.2.2.2.1, WfE kLine x := h.wf.2.2.2.2.2.1.2
theorem Few.k {p : Prg} (h : Few p) : (0 ≤ p.2.2.2.2.2.2.1 ∧ p.2.2.2.2.2.2.1 < 256) ∧ (0 ≤ p.2.2.2.2.2.2.2.1 ∧ p.2.2.2.2.2.2.2.1 < 256) ∧ (0 ≤ p.2.2.2.2.2.2.2.2.1 ∧ p.2.2.2.2.2.2.2.2.1 < 256) :=
  ⟨wf_u8 h.wf.2.2.2.2.2.2.1, wf_u8 h.wf.2.2.2.2.2.2.2.1, wf_u8 h.wf.2.2.2.2.2.2.2.2.1⟩

theorem covered_of {s w : Int} {p : Prg} (h : Few p) (hs : s ≤ 4) (h1 : linesB s p.2.2.2.1 = true) (h2 : takesB s w p.2.1 p.2.2.2.2.1 = true) (h3 : linesB s p.2.2.2.2.2.1 = true) :
    prog_covered p = some (coveredB p.2.2.2.2.1 p.2.2.2.2.2.1 p.2.2.2.1) := by
  have l1 := h.lines; have l2 := h.takes; have l3 := h.owes
  exact progCovered_val p (by omega) (by omega) (by omega) h.w2 h.w3
    (fun x hx => ⟨(wf_u8 (h.w1 x hx).1).1, by have := (linesB_lt h1 x hx).1; omega⟩) (fun x hx => ⟨(wf_u8 (h.w2 x hx).2.1).1, by have := (takesB_lt h2 x hx).2.1; omega⟩) (fun x hx => ⟨(wf_u8 (h.w3 x hx).1).1, by have := (linesB_lt h3 x hx).1; omega⟩)

theorem progGood_val (s w : Int) (p : Prg) (h : Few p) : prog_Good s w p = some (goodP s w p) := by
  have l1 := h.lines; have l2 := h.takes; have l3 := h.owes
  obtain ⟨k1, k2, k3⟩ := h.k
  unfold prog_Good goodP fineB
  cases hs1 : decide (s < 1) with
  | true => rfl
  | false =>
  cases hs2 : decide (s > 4) with
  | true => rfl
  | false =>
  cases hw1 : decide (w < 1) with
  | true => rfl
  | false =>
  cases hw2 : decide (w > 4) with
  | true => rfl
  | false =>
  have hs : s ≤ 4 := by simpa using hs2
  simp only [cond_false, Bool.not_false, Bool.true_and, still_val, bare_val, progLines_val s _ (show p.2.2.2.1.length < 1000 by omega) h.w1, progLines_val s _ (show p.2.2.2.2.2.1.length < 1000 by omega) h.w3, progTakes_val s w p (by omega) h.w2, progFills_val p (by omega) h.w2,
    wrap_i64 (show -9223372036854775808 ≤ p.2.2.2.2.2.2.1 by omega) (by omega), wrap_i64 (show -9223372036854775808 ≤ p.2.2.2.2.2.2.2.1 by omega) (by omega), wrap_i64 (show -9223372036854775808 ≤ p.2.2.2.2.2.2.2.2.1 by omega) (by omega),
    Option.bind_some, cond_some, fst_cond, snd_cond, Bool.cond_self, cond_no]
  have e34 : (bif p.1 == 3 then p.1 == 3 else p.1 == 4) = ((p.1 == 3) || (p.1 == 4)) := by cases (p.1 == 3) <;> rfl
  have hwr : IntKind.i64.wrap ((p.2.2.2.2.1.length : Int) + (p.2.2.2.2.2.1.length : Int)) = (p.2.2.2.2.1.length : Int) + (p.2.2.2.2.2.1.length : Int) := wrap_i64 (by omega) (by omega)
  unfold goodKind orderedB movedB
  rw [e34, hwr]
  cases p.1 == 1 with
  | false => simp only [cond_false, cond_no]
  | true =>
    simp only [cond_true]
    cases ((p.2.1 != 0) && stillB p) with
    | false => rfl
    | true =>
    cases decide (p.2.2.1 ≤ 1) with
    | false => rfl
    | true =>
    cases decide ((p.2.2.2.1.length : Int) > 0) with
    | false => rfl
    | true =>
    cases c1 : linesB s p.2.2.2.1 with
    | false => rfl
    | true =>
    cases c2 : takesB s w p.2.1 p.2.2.2.2.1 with
    | false => rfl
    | true =>
    cases c3 : linesB s p.2.2.2.2.2.1 with
    | false => rfl
    | true =>
    simp only [cond_true, Bool.true_and]
    rw [covered_of h hs c1 c2 c3, Option.bind_some, cond_yes]
end Go.Proofs.Pure

/- Which programs may be, by the document: the same. -/
namespace Go.Proofs.Pure
open Go.Proofs.D Go.Proofs.F

def sameP (x y : Prg) : Bool := (x.1 == y.1) && ((x.2.1 == y.2.1) && ((x.2.2.1 == y.2.2.1) && (sameL x.2.2.2.1 y.2.2.2.1 && (sameT x.2.2.2.2.1 y.2.2.2.2.1 && (sameL x.2.2.2.2.2.1 y.2.2.2.2.2.1 && ((x.2.2.2.2.2.2.1 == y.2.2.2.2.2.2.1) && ((x.2.2.2.2.2.2.2.1 == y.2.2.2.2.2.2.2.1) && ((x.2.2.2.2.2.2.2.2.1 == y.2.2.2.2.2.2.2.2.1) && (x.2.2.2.2.2.2.2.2.2.1 == y.2.2.2.2.2.2.2.2.2.1)))))))))
theorem sameP_refl (x : Prg) : sameP x x = true := by unfold sameP; simp [sameL_refl, sameT_refl]

theorem refSameP_val (x y : Prg) (h1 : x.2.2.2.1.length < 1000) (h2 : x.2.2.2.2.1.length < 1000) (h3 : x.2.2.2.2.2.1.length < 1000) : pledgeref13_Same x y = some (sameP x y) := by
  unfold pledgeref13_Same sameP
  rw [ref_equal_val _ _ h1, ref_equalT_val _ _ h2, ref_equal_val _ _ h3]
  simp only [Option.bind_some, cond_some, cond_no]

theorem sameL_nil (x : List Ln) : sameL x [] = ((x.length : Int) == 0) := by
  unfold sameL
  cases x with
  | nil => rfl
  | cons a x => rw [show ((a :: x).length == ([] : List Ln).length) = false by simp, show (((a :: x).length : Int) == 0) = false by rw [beq_eq_false_iff_ne]; simp only [List.length_cons]; omega]; rfl
theorem sameT_nil (x : List Tk) : sameT x [] = ((x.length : Int) == 0) := by
  unfold sameT
  cases x with
  | nil => rfl
  | cons a x => rw [show ((a :: x).length == ([] : List Tk).length) = false by simp, show (((a :: x).length : Int) == 0) = false by rw [beq_eq_false_iff_ne]; simp only [List.length_cons]; omega]; rfl

theorem refCovered_of {s : Int} {p : Prg} (h : Few p) (hs : s ≤ 4) (h1 : linesB s p.2.2.2.1 = true) : pledgeref13_covered p = some (coveredB p.2.2.2.2.1 p.2.2.2.2.2.1 p.2.2.2.1) := by
  have l1 := h.lines; have l2 := h.takes; have l3 := h.owes
  exact refCovered_val p hs h1 (by omega) (by omega) (by omega) h.w1 h.w2 h.w3

theorem refGoodP_val (s w : Int) (p : Prg) (h : Few p) : pledgeref13_Good s w p = some (goodP s w p) := by
  have l1 := h.lines; have l2 := h.takes; have l3 := h.owes
  obtain ⟨k1, k2, k3⟩ := h.k
  unfold pledgeref13_Good goodP fineB
  cases hs1 : decide (s < 1) with
  | true => rfl
  | false =>
  cases hs2 : decide (s > 4) with
  | true => rfl
  | false =>
  cases hw1 : decide (w < 1) with
  | true => rfl
  | false =>
  cases hw2 : decide (w > 4) with
  | true => rfl
  | false =>
  have hs : s ≤ 4 := by simpa using hs2
  simp only [cond_false, Bool.not_false, Bool.true_and, refLines_val s _ (show p.2.2.2.1.length < 1000 by omega) h.w1, refLines_val s _ (show p.2.2.2.2.2.1.length < 1000 by omega) h.w3, refTakes_val s w p (by omega) h.w2, refFills_val p (by omega) h.w2,
    wrap_i64 (show -9223372036854775808 ≤ p.2.2.2.2.2.2.1 by omega) (by omega), wrap_i64 (show -9223372036854775808 ≤ p.2.2.2.2.2.2.2.1 by omega) (by omega), wrap_i64 (show -9223372036854775808 ≤ p.2.2.2.2.2.2.2.2.1 by omega) (by omega),
    Option.bind_some, cond_some, fst_cond, snd_cond, Bool.cond_self]
  have e34 : (bif p.1 == 3 then p.1 == 3 else p.1 == 4) = ((p.1 == 3) || (p.1 == 4)) := by cases (p.1 == 3) <;> rfl
  have hwr : IntKind.i64.wrap ((p.2.2.2.2.1.length : Int) + (p.2.2.2.2.2.1.length : Int)) = (p.2.2.2.2.1.length : Int) + (p.2.2.2.2.2.1.length : Int) := wrap_i64 (by omega) (by omega)
  have hsame : ∀ q : Prg, pledgeref13_Same p q = some (sameP p q) := fun q => refSameP_val p q (by omega) (by omega) (by omega)
  have fin : ∀ (x : (Unit × Unit × Bool) × Prg × Prg × Unit), x.2.1 = p → ((some x).bind fun y47 => bif y47.1.2.2 then (pledgeref13_Same y47.2.1 y47.2.2.1).bind fun r48 => some r48 else some false) = some (x.1.2.2 && sameP p x.2.2.1) := by
    intro x hx
    rw [Option.bind_some, hx, hsame, Option.bind_some]
    cases x.1.2.2 <;> rfl
  unfold goodKind orderedB movedB
  by_cases c1 : p.1 = 1
  · simp only [show (p.1 == 1) = true by rw [beq_iff_eq]; exact c1, cond_true]
    cases (p.2.1 != 0) with
    | false => rfl
    | true =>
    cases decide (p.2.2.1 ≤ 1) with
    | false => rw [Bool.and_comm]; rfl
    | true =>
    cases decide ((p.2.2.2.1.length : Int) > 0) with
    | false => rw [Bool.and_comm]; rfl
    | true =>
    cases c2 : linesB s p.2.2.2.1 with
    | false => rw [Bool.and_comm]; rfl
    | true =>
    cases takesB s w p.2.1 p.2.2.2.2.1 with
    | false => rw [Bool.and_comm]; rfl
    | true =>
    cases linesB s p.2.2.2.2.2.1 with
    | false => rw [Bool.and_comm]; rfl
    | true =>
    simp only [cond_true, Bool.true_and]
    rw [refCovered_of h hs c2, Option.bind_some]
    cases coveredB p.2.2.2.2.1 p.2.2.2.2.2.1 p.2.2.2.1 with
    | false => rw [Bool.and_comm]; rfl
    | true =>
    have hst : sameP p (p.1, p.2.1, p.2.2.1, p.2.2.2.1, p.2.2.2.2.1, p.2.2.2.2.2.1, 0, 0, 0, 0, ()) = stillB p := by
      unfold sameP stillB
      simp only [beq_self_eq_true, sameL_refl, sameT_refl, Bool.true_and]
    simp only [cond_true, Bool.true_and]
    cases (p.2.2.1 == 0) with
    | true => simp only [cond_true]; refine (fin _ rfl).trans ?_; simp only [hst, Bool.true_or, Bool.true_and, Bool.and_true]
    | false => simp only [cond_false]; refine (fin _ rfl).trans ?_; simp only [hst, Bool.false_or, Bool.and_comm]
  simp only [show (p.1 == 1) = false by rw [beq_eq_false_iff_ne]; exact c1, cond_false, e34, hwr]
  by_cases c2 : p.1 = 2
  · simp only [show (p.1 == 2) = true by rw [beq_iff_eq]; exact c2, cond_true]
    have hst : sameP p (p.1, p.2.1, 0, [], p.2.2.2.2.1, p.2.2.2.2.2.1, 0, 0, 0, 0, ()) = (bareB p && stillB p) := by
      unfold sameP stillB bareB
      simp only [beq_self_eq_true, sameL_refl, sameT_refl, sameL_nil, Bool.true_and, Bool.and_assoc]
    cases (p.2.1 != 0) with
    | false => rfl
    | true =>
    cases takesB s w p.2.1 p.2.2.2.2.1 with
    | false => simp
    | true =>
    cases linesB s p.2.2.2.2.2.1 with
    | false => simp
    | true =>
    simp only [cond_true]
    refine (fin _ rfl).trans ?_
    simp only [hst, Bool.true_and]
    cases decide ((p.2.2.2.2.1.length : Int) + (p.2.2.2.2.2.1.length : Int) > 0) <;> cases bareB p <;> cases stillB p <;> rfl
  simp only [show (p.1 == 2) = false by rw [beq_eq_false_iff_ne]; exact c2, cond_false]
  cases c34 : ((p.1 == 3) || (p.1 == 4)) with
  | true =>
    simp only [cond_true]
    have hst : sameP p (p.1, p.2.1, 0, [], p.2.2.2.2.1, [], 0, 0, 0, 0, ()) = (bareB p && (((p.2.2.2.2.2.1.length : Int) == 0) && stillB p)) := by
      unfold sameP stillB bareB
      simp only [beq_self_eq_true, sameT_refl, sameL_nil, Bool.true_and, Bool.and_assoc]
    cases (p.2.1 != 0) with
    | false => rfl
    | true =>
    cases takesB s w p.2.1 p.2.2.2.2.1 with
    | false => simp
    | true =>
    simp only [cond_true]
    refine (fin _ rfl).trans ?_
    simp only [hst, Bool.true_and]
    cases decide ((p.2.2.2.2.1.length : Int) > 0) <;> cases bareB p <;> cases stillB p <;> cases ((p.2.2.2.2.2.1.length : Int) == 0) <;> rfl
  | false =>
    simp only [cond_false]
    by_cases c5 : p.1 = 5
    · simp only [show (p.1 == 5) = true by rw [beq_iff_eq]; exact c5, cond_true]
      have hst : sameP p (p.1, 0, 0, [], p.2.2.2.2.1, [], p.2.2.2.2.2.2.1, 0, p.2.2.2.2.2.2.2.2.1, p.2.2.2.2.2.2.2.2.2.1, ()) = ((p.2.1 == 0) && (bareB p && (((p.2.2.2.2.2.1.length : Int) == 0) && (p.2.2.2.2.2.2.2.1 == 0)))) := by
        unfold sameP bareB
        simp only [beq_self_eq_true, sameT_refl, sameL_nil, Bool.true_and, Bool.and_assoc, Bool.and_true]
      cases decide (p.2.2.2.2.2.2.1 < s) with
      | false => simp
      | true =>
      cases decide (p.2.2.2.2.2.2.2.2.1 < w) with
      | false => simp
      | true =>
      cases decide (p.2.2.2.2.2.2.2.2.2.1 ≥ 1) with
      | false => simp
      | true =>
      simp only [cond_true]
      refine (fin _ rfl).trans ?_
      simp only [hst]
      cases fillsB p <;> cases (p.2.1 == 0) <;> cases bareB p <;> cases ((p.2.2.2.2.2.1.length : Int) == 0) <;> cases (p.2.2.2.2.2.2.2.1 == 0) <;> rfl
    simp only [show (p.1 == 5) = false by rw [beq_eq_false_iff_ne]; exact c5, cond_false]
    by_cases c6 : p.1 = 6
    · simp only [show (p.1 == 6) = true by rw [beq_iff_eq]; exact c6, cond_true]
      have hst : sameP p (6, 0, 0, [], [], [], p.2.2.2.2.2.2.1, p.2.2.2.2.2.2.2.1, p.2.2.2.2.2.2.2.2.1, p.2.2.2.2.2.2.2.2.2.1, ()) = ((p.2.1 == 0) && (bareB p && (((p.2.2.2.2.1.length : Int) == 0) && ((p.2.2.2.2.2.1.length : Int) == 0)))) := by
        unfold sameP bareB
        simp only [show (p.1 == 6) = true by rw [beq_iff_eq]; exact c6, beq_self_eq_true, sameT_nil, sameL_nil, Bool.true_and, Bool.and_assoc, Bool.and_true]
      cases decide (p.2.2.2.2.2.2.1 < s) with
      | false => simp
      | true =>
      cases decide (p.2.2.2.2.2.2.2.1 < w) with
      | false => simp
      | true =>
      cases decide (p.2.2.2.2.2.2.2.2.1 < w) with
      | false => simp
      | true =>
      cases (p.2.2.2.2.2.2.2.1 != p.2.2.2.2.2.2.2.2.1) with
      | false => simp
      | true =>
      simp only [cond_true]
      refine (fin _ rfl).trans ?_
      simp only [hst]
      cases decide (p.2.2.2.2.2.2.2.2.2.1 ≥ 1) <;> cases (p.2.1 == 0) <;> cases bareB p <;> cases ((p.2.2.2.2.2.1.length : Int) == 0) <;> cases ((p.2.2.2.2.1.length : Int) == 0) <;> rfl
    simp only [show (p.1 == 6) = false by rw [beq_eq_false_iff_ne]; exact c6, cond_false]
    rfl
end Go.Proofs.Pure

/- Orders: what is owed, what is named. -/
namespace Go.Proofs.Pure
open Go.Proofs.D Go.Proofs.F

def firstF (a : Int) : Nat → Ln → Unit → Unit ⊕ (Unit ⊕ Int) := fun _ x _ => bif x.1 == a then .inr (.inr x.2.1) else .inl ()
/-- The first line of the article, or nothing. -/
def firstOf (a : Int) (l : List Ln) : Int := match walkL (firstF a) (fun _ => .inl ()) 0 l () with | .inl _ => 0 | .inr n => n

theorem first_val (l : List Ln) (a : Int) (hl : l.length < 1000000) : order_first l a = some (firstOf a l) := by
  unfold order_first firstOf
  have := loop_walk (step := order_first.l1) l (fun i (_ : Unit) => (a, (l, ((l.length : Int), (i : Int))))) (firstF a) (fun _ => .inl ()) (fun _ _ => True) () (by omega) trivial (fun i x acc hx _ => by
    have hi := get_lt hx
    refine ⟨?_, fun _ _ => trivial⟩
    unfold order_first.l1 firstF
    simp only [dec_t (show (i : Int) < (l.length : Int) by omega), cond_true]
    rw [nthK_get hx]
    cases (x.1 == a) with
    | true => rfl
    | false => simp only [cond_false]; rw [succ_i64 (by omega)]) (fun acc _ => by
    unfold order_first.l1
    simp only [dec_f (show ¬ (l.length : Int) < (l.length : Int) by omega), cond_false])
  rw [show (((0 : Nat) : Int)) = 0 from rfl] at this
  rw [this, Option.bind_some]
  split <;> simp_all

theorem owed_val (x : Ord) (a : Int) (hl : x.2.2.2.2.2.1.length < 1000000) : order_Owed x a = some (firstOf a x.2.2.2.2.2.1) := by
  unfold order_Owed
  rw [first_val _ _ hl]; rfl

theorem refOwed_val (x : Ord) (a : Int) (hl : x.2.2.2.2.2.1.length < 1000000) : pledgeref22_Owed x a = some (firstOf a x.2.2.2.2.2.1) := by
  unfold pledgeref22_Owed firstOf
  generalize hL : x.2.2.2.2.2.1 = l at *
  have := loop_walk (step := pledgeref22_Owed.l1) l (fun i (_ : Unit) => ((a, ((), (i : Int))), (x, ()))) (firstF a) (fun _ => .inl ()) (fun _ _ => True) () (by omega) trivial (fun i y acc hx _ => by
    have hi := get_lt hx
    refine ⟨?_, fun _ _ => trivial⟩
    unfold pledgeref22_Owed.l1 firstF
    simp only [hL, dec_t (show (i : Int) < (l.length : Int) by omega), cond_true]
    rw [nthK_get hx, nthK_get hx]
    cases (y.1 == a) with
    | true => rfl
    | false => simp only [cond_false]; rw [succ_i64 (by omega)]) (fun acc _ => by
    unfold pledgeref22_Owed.l1
    simp only [hL, dec_f (show ¬ (l.length : Int) < (l.length : Int) by omega), cond_false])
  rw [show (((0 : Nat) : Int)) = 0 from rfl] at this
  rw [this, Option.bind_some]
  split <;> simp_all

theorem named_l1 (a : Int) (x : Ord) (t : List Tk) (ht : t.length < 1000000) : iterL order_named.l1 loopN ((a, ((), ((), ((), ((t.length : Int), 0))))), (x, ([], (t, ())))) = some ((a, ((), ())), (x, (t.flatMap (ofTake a), ()))) := by
  have := loop_walk (step := order_named.l1) t (fun i (acc : List Int) => ((a, ((), ((), ((), ((t.length : Int), (i : Int)))))), (x, (acc, (t, ()))))) (fun _ y acc => .inl (acc ++ ofTake a y)) (fun acc => ((a, ((), ())), (x, (acc, ())))) (fun i acc => acc.length ≤ i) [] (by omega) (by simp) (fun i y acc hx hI => by
    have hi := get_lt hx
    refine ⟨?_, fun _ h => by cases h; have := ofTake_len a y; simp only [List.length_append]; omega⟩
    unfold order_named.l1 ofTake
    simp only [dec_t (show (i : Int) < (t.length : Int) by omega), dec_t (show (0 : Int) ≤ (i : Int) by omega), Bool.and_true, cond_true]
    rw [chk_true rfl, nthK_get hx]
    cases (y.2.1 == a) with
    | true =>
      simp only [cond_true]
      rw [room_ok (by simp; omega), succ_i64 (by omega)]
    | false => simp only [cond_false, List.append_nil]; rw [succ_i64 (by omega)]) (fun acc _ => by
    unfold order_named.l1
    simp only [dec_f (show ¬ (t.length : Int) < (t.length : Int) by omega), cond_false])
  rw [show (((0 : Nat) : Int)) = 0 from rfl] at this
  rw [this, walk_gather, List.nil_append]

theorem named_l2 (a : Int) (acc0 : List Int) (t : List Ln) (h0 : acc0.length < 1000000) (ht : t.length < 1000000) : iterL order_named.l2 loopN ((a, ((), (t, ((t.length : Int), 0)))), (acc0, ())) = some ((), (acc0 ++ t.flatMap (ofLine a), ())) := by
  have := loop_walk (step := order_named.l2) t (fun i (acc : List Int) => ((a, ((), (t, ((t.length : Int), (i : Int))))), (acc, ()))) (fun _ y acc => .inl (acc ++ ofLine a y)) (fun acc => ((), (acc, ()))) (fun i acc => acc.length ≤ i + acc0.length) acc0 (by omega) (by simp) (fun i y acc hx hI => by
    have hi := get_lt hx
    refine ⟨?_, fun _ h => by cases h; have := ofLine_len a y; simp only [List.length_append]; omega⟩
    unfold order_named.l2 ofLine
    simp only [dec_t (show (i : Int) < (t.length : Int) by omega), cond_true]
    rw [nthK_get hx]
    cases (y.1 == a) with
    | true =>
      simp only [cond_true]
      rw [room_ok (by simp; omega), succ_i64 (by omega)]
    | false => simp only [cond_false, List.append_nil]; rw [succ_i64 (by omega)]) (fun acc _ => by
    unfold order_named.l2
    simp only [dec_f (show ¬ (t.length : Int) < (t.length : Int) by omega), cond_false])
  rw [show (((0 : Nat) : Int)) = 0 from rfl] at this
  rw [this, walk_gather]

theorem named_val (x : Ord) (a : Int) (h1 : x.2.2.2.1.length < 200000) (h2 : x.2.2.2.2.1.length < 200000) (h3 : x.2.2.2.2.2.1.length < 200000) (g1 : ∀ y ∈ x.2.2.2.1, WfE kTake y) (g2 : ∀ y ∈ x.2.2.2.2.1, WfE kTake y) (g3 : ∀ y ∈ x.2.2.2.2.2.1, WfE kLine y) :
    order_named x a = some (sumOf (namedOf a (x.2.2.2.1 ++ x.2.2.2.2.1) x.2.2.2.2.2.1)) := by
  obtain ⟨o1, o2, o3, held, sent, owed, u⟩ := x
  simp only at h1 h2 h3 g1 g2 g3 ⊢
  unfold order_named
  simp only [Int.toNat_natCast, List.take_length, List.drop_zero]
  have hn := named_len a (held ++ sent) owed
  simp only [List.length_append] at hn
  have hf := flat_len (ofTake_len a) (held ++ sent)
  simp only [List.length_append] at hf
  rw [chk_true (by simp), chk_true (by simp), room_ok (by omega), named_l1 a _ (held ++ sent) (by simp only [List.length_append]; omega), Option.bind_some]
  simp only []
  rw [named_l2 a _ owed (by omega) (by omega), Option.bind_some, show (held ++ sent).flatMap (ofTake a) ++ owed.flatMap (ofLine a) = namedOf a (held ++ sent) owed from rfl]
  rw [sum_all _ (by omega) (named_fit a _ _ (fun y hy => (List.mem_append.mp hy).elim (g1 y) (g2 y)) g3)]
  rfl

theorem refnamed_val (x : Ord) (a : Int) (h1 : x.2.2.2.1.length < 200000) (h2 : x.2.2.2.2.1.length < 200000) (h3 : x.2.2.2.2.2.1.length < 200000) (g1 : ∀ y ∈ x.2.2.2.1, WfE kTake y) (g2 : ∀ y ∈ x.2.2.2.2.1, WfE kTake y) (g3 : ∀ y ∈ x.2.2.2.2.2.1, WfE kLine y) :
    pledgeref22_named x a = some (sumOf (namedOf a (x.2.2.2.1 ++ x.2.2.2.2.1) x.2.2.2.2.2.1)) := by
  unfold pledgeref22_named
  rw [room_ok (by omega), room_ok (by omega), refNamed_val a _ _ (by simp only [List.length_append]; omega) (by omega) (fun y hy => (List.mem_append.mp hy).elim (g1 y) (g2 y)) g3]
  rfl

def sameO (x y : Ord) : Bool := (x.1 == y.1) && ((x.2.1 == y.2.1) && (sameL x.2.2.1 y.2.2.1 && (sameT x.2.2.2.1 y.2.2.2.1 && (sameT x.2.2.2.2.1 y.2.2.2.2.1 && sameL x.2.2.2.2.2.1 y.2.2.2.2.2.1))))
theorem sameO_refl (x : Ord) : sameO x x = true := by unfold sameO; simp [sameL_refl, sameT_refl]

theorem same_val (x y : Ord) (h0 : x.2.2.1.length < 1000) (h1 : x.2.2.2.1.length < 1000) (h2 : x.2.2.2.2.1.length < 1000) (h3 : x.2.2.2.2.2.1.length < 1000) : order_Same x y = some (sameO x y) := by
  unfold order_Same sameO
  rw [equal_val _ _ h0, equalT_val _ _ h1, equalT_val _ _ h2, equal_val _ _ h3]
  cases (x.1 == y.1) <;> cases (x.2.1 == y.2.1) <;> cases sameL x.2.2.1 y.2.2.1 <;> cases sameT x.2.2.2.1 y.2.2.2.1 <;> cases sameT x.2.2.2.2.1 y.2.2.2.2.1 <;> rfl
theorem refsame_val (x y : Ord) (h0 : x.2.2.1.length < 1000) (h1 : x.2.2.2.1.length < 1000) (h2 : x.2.2.2.2.1.length < 1000) (h3 : x.2.2.2.2.2.1.length < 1000) : pledgeref22_Same x y = some (sameO x y) := by
  unfold pledgeref22_Same sameO
  rw [ref_equal_val _ _ h0, ref_equalT_val _ _ h1, ref_equalT_val _ _ h2, ref_equal_val _ _ h3]
  cases (x.1 == y.1) <;> cases (x.2.1 == y.2.1) <;> cases sameL x.2.2.1 y.2.2.1 <;> cases sameT x.2.2.2.1 y.2.2.2.1 <;> cases sameT x.2.2.2.2.1 y.2.2.2.2.1 <;> rfl

theorem few_val (x : Ord) : pledgelaw22_Few x = some 0 ∨ (pledgelaw22_Few x = some 1 ∧ x.2.2.1.length ≤ 20 ∧ x.2.2.2.1.length ≤ 30 ∧ x.2.2.2.2.1.length ≤ 30 ∧ x.2.2.2.2.2.1.length ≤ 20) := by
  unfold pledgelaw22_Few pledgelaw22_isFew
  by_cases h1 : (x.2.2.1.length : Int) ≤ 20
  · by_cases h2 : (x.2.2.2.1.length : Int) ≤ 30
    · by_cases h3 : (x.2.2.2.2.1.length : Int) ≤ 30
      · by_cases h4 : (x.2.2.2.2.2.1.length : Int) ≤ 20
        · rw [dec_t h1, dec_t h2, dec_t h3, dec_t h4]
          exact .inr ⟨rfl, by omega, by omega, by omega, by omega⟩
        · rw [dec_t h1, dec_t h2, dec_t h3, dec_f h4]; exact .inl rfl
      · rw [dec_t h1, dec_t h2, dec_f h3]; exact .inl rfl
    · rw [dec_t h1, dec_f h2]; exact .inl rfl
  · rw [dec_f h1]; exact .inl rfl

theorem copy_val (x : Ord) (h0 : x.2.2.1.length < 1000) (h1 : x.2.2.2.1.length < 1000) (h2 : x.2.2.2.2.1.length < 1000) (h3 : x.2.2.2.2.2.1.length < 1000) :
    order_Copy x = some ((x.1, (x.2.1, ((), ((), ((), ((), x.2.2.2.2.2.2)))))), (x.2.2.1, (x.2.2.2.1, (x.2.2.2.2.1, (x.2.2.2.2.2.1, ()))))) := by
  unfold order_Copy slices_Clone_api_Line_api_Line slices_Clone_api_Take_api_Take
  rw [room_ok (by omega), room_ok (by omega), room_ok (by omega), room_ok (by omega)]
  rfl
end Go.Proofs.Pure

/- Which orders may be: lines, takes. -/
namespace Go.Proofs.Pure
open Go.Proofs.D Go.Proofs.F

theorem orderLines_val (l : List Ln) (hl : l.length < 1000) (hw : ∀ x ∈ l, WfE kLine x) : order_lines l = some (linesB 4 l) := by
  unfold order_lines linesB
  have := loop_all (step := order_lines.l1) (fun i => (l, (l, ((l.length : Int), (i : Int))))) (lineR 4 l) (.inl l) (.inr false) l.length (by omega) (fun i hi => by
    have e : order_lines.l1 (l, (l, ((l.length : Int), (i : Int)))) = bif decide ((i : Int) < (l.length : Int)) then lineBody (fun x => x) l 4 i (some (.inr (.inr false))) (some (.inl (l, (l, ((l.length : Int), IntKind.i64.wrap ((i : Int) + 1)))))) else some (.inr (.inl l)) := rfl
    rw [e, dec_t (show (i : Int) < (l.length : Int) by omega), lineBody_val _ l 4 i _ _ hi hl rfl, succ_i64 (by omega)]
    rfl) (by
    unfold order_lines.l1
    simp only [dec_f (show ¬ (l.length : Int) < (l.length : Int) by omega), cond_false])
  rw [show (((0 : Nat) : Int)) = 0 from rfl] at this
  rw [this, Option.bind_some]
  cases allFrom (lineR 4 l) 0 l.length <;> rfl

def takesO (id : Int) (l : List Tk) : Bool := allFrom (takeQ 4 4 id l) 0 l.length

theorem fine_val (id : Int) (x : Tk) : order_fine id x = some (tkBase 4 4 id x) := by
  unfold order_fine tkBase
  rw [not_ge, not_ge, show (!decide (x.2.2.2.1 < 1)) = decide (x.2.2.2.1 ≥ 1) by by_cases h : x.2.2.2.1 < 1 <;> simp [h] <;> omega, show (!(x.1 != id)) = (x.1 == id) by simp [bne]]
  cases (x.1 == id) <;> cases decide (x.2.1 < 4) <;> cases decide (x.2.2.1 < 4) <;> rfl

theorem ahead_val (y x : Tk) : order_ahead y x = some (tkPrev y x) := by
  unfold order_ahead tkPrev
  by_cases h1 : y.2.2.1 < x.2.2.1
  · rw [dec_t h1, dec_f (by omega : ¬ y.2.2.1 > x.2.2.1), show (y.2.2.1 == x.2.2.1) = false by rw [beq_eq_false_iff_ne]; omega]; rfl
  · by_cases h2 : y.2.2.1 = x.2.2.1
    · rw [dec_f h1, dec_f (by omega : ¬ y.2.2.1 > x.2.2.1), show (y.2.2.1 == x.2.2.1) = true by rw [beq_iff_eq]; exact h2]
      simp only [cond_false, cond_true, Bool.true_and, Bool.not_false, not_ge]
    · rw [dec_f h1, dec_t (by omega : y.2.2.1 > x.2.2.1), show (y.2.2.1 == x.2.2.1) = false by rw [beq_eq_false_iff_ne]; exact h2]; rfl

theorem orderTakes_val (id : Int) (l : List Tk) (hl : l.length < 1000) : order_takes id l = some (takesO id l) := by
  unfold order_takes takesO
  have := loop_all (step := order_takes.l1) (fun i => (id, (l, (l, ((l.length : Int), (i : Int)))))) (takeQ 4 4 id l) (.inl ()) (.inr false) l.length (by omega) (fun i hi => by
    unfold order_takes.l1 takeQ
    have w3 := succ_i64 (show i < 9223372036854775807 by omega)
    simp only [dec_t (show (i : Int) < (l.length : Int) by omega), cond_true]
    rw [nthK_get (at1_get hi), fine_val, Option.bind_some]
    cases tkBase 4 4 id (at1 l i) with
    | false => rfl
    | true =>
      simp only [Bool.not_true, cond_false, Bool.true_and, w3]
      cases i with
      | zero => rfl
      | succ i =>
        rw [dec_t (by omega : ((i + 1 : Nat) : Int) > 0), pred_i64 (by omega)]
        simp only [cond_true]
        rw [nthK_get (at1_get (by omega : i < l.length)), ahead_val, Option.bind_some, show Nat.beq (i + 1) 0 = false from rfl, Nat.add_sub_cancel]
        cases tkPrev (at1 l i) (at1 l (i + 1)) <;> rfl) (by
    unfold order_takes.l1
    simp only [dec_f (show ¬ (l.length : Int) < (l.length : Int) by omega), cond_false])
  rw [show (((0 : Nat) : Int)) = 0 from rfl] at this
  rw [this, Option.bind_some]
  cases allFrom (takeQ 4 4 id l) 0 l.length <;> rfl
end Go.Proofs.Pure

/- Which orders may be: the program's way and the document's. -/
namespace Go.Proofs.Pure
open Go.Proofs.D Go.Proofs.F

structure FewO (x : Ord) : Prop where
  wf : WfE kOrder x
  lines : x.2.2.1.length ≤ 100
  held : x.2.2.2.1.length ≤ 100
  sent : x.2.2.2.2.1.length ≤ 100
  owes : x.2.2.2.2.2.1.length ≤ 100
theorem FewO.w1 {x : Ord} (h : FewO x) : ∀ y ∈ x.2.2.1, WfE kLine y := h.wf.2.2.1.2
theorem FewO.w2 {x : Ord} (h : FewO x) : ∀ y ∈ x.2.2.2.1, WfE kTake y := h.wf.2.2.2.1.2
theorem FewO.w3 {x : Ord} (h : FewO x) : ∀ y ∈ x.2.2.2.2.1, WfE kTake y := h.wf.2.2.2.2.1.2
theorem FewO.w4 {x : Ord} (h : FewO x) : ∀ y ∈ x.2.2.2.2.2.1, WfE kLine y := h.wf.2.2.2.2.2.1.2

theorem ref22Takes_val (id : Int) (l : List Tk) (hl : l.length < 1000) : pledgeref22_takes id l = some (takesO id l) := by
  unfold pledgeref22_takes takesO
  have := loop_all (step := pledgeref22_takes.l1) (fun i => (id, (l, (i : Int)))) (takeQ 4 4 id l) (.inl ()) (.inr false) l.length (by omega) (fun i hi => by
    have hg := at1_get hi
    unfold pledgeref22_takes.l1 takeQ tkBase
    simp only [dec_t (show (i : Int) < (l.length : Int) by omega), cond_true]
    have w3 := succ_i64 (show i < 9223372036854775807 by omega)
    rw [nthK_get hg, nthK_get hg, nthK_get hg, nthK_get hg, w3]
    cases ((at1 l i).1 != id) with
    | true => rfl
    | false =>
      cases decide ((at1 l i).2.1 ≥ 4) with
      | true => rfl
      | false =>
        cases decide ((at1 l i).2.2.1 ≥ 4) with
        | true => rfl
        | false =>
          cases decide ((at1 l i).2.2.2.1 < 1) with
          | true => rfl
          | false =>
            simp only [cond_false, Bool.not_false, Bool.true_and]
            cases i with
            | zero => rfl
            | succ i =>
              rw [dec_t (by omega : ((i + 1 : Nat) : Int) > 0), pred_i64 (by omega)]
              have hi' := at1_get (by omega : i < l.length)
              simp only [cond_true]
              rw [nthK_get hi', nthK_get hg, nthK_get hi', nthK_get hg, nthK_get hi', nthK_get hg, show Nat.beq (i + 1) 0 = false from rfl, Nat.add_sub_cancel]
              unfold tkPrev
              cases decide ((at1 l i).2.2.1 > (at1 l (i + 1)).2.2.1) <;> cases ((at1 l i).2.2.1 == (at1 l (i + 1)).2.2.1) <;> cases decide ((at1 l i).2.1 ≥ (at1 l (i + 1)).2.1) <;> rfl) (by
    unfold pledgeref22_takes.l1
    simp only [dec_f (show ¬ (l.length : Int) < (l.length : Int) by omega), cond_false])
  rw [show (((0 : Nat) : Int)) = 0 from rfl] at this
  rw [this, Option.bind_some]
  cases allFrom (takeQ 4 4 id l) 0 l.length <;> rfl

def namedR (x : Ord) (k : Nat) : Bool := (sumOf (namedOf k (x.2.2.2.1 ++ x.2.2.2.2.1) x.2.2.2.2.2.1)).2.1 && !decide ((sumOf (namedOf k (x.2.2.2.1 ++ x.2.2.2.2.1) x.2.2.2.2.2.1)).1 > firstOf k x.2.2.1)
def goodO (x : Ord) : Bool := !(x.1 == 0) && (!decide (x.2.1 > 1) && (!((x.2.2.1.length : Int) == 0) && (linesB 4 x.2.2.1 && (linesB 4 x.2.2.2.2.2.1 && (takesO x.1 x.2.2.2.1 && (takesO x.1 x.2.2.2.2.1 && allFrom (namedR x) 0 4))))))

theorem orderGood_val (x : Ord) (h : FewO x) : order_Good x = some (goodO x) := by
  have l1 := h.lines; have l2 := h.held; have l3 := h.sent; have l4 := h.owes
  have run := loop_all (step := order_Good.l1) (fun k => (((), (k : Int)), (x, ()))) (namedR x) (.inl ()) (.inr false) 4 (by omega) (fun k hk => by
    unfold order_Good.l1 namedR
    simp only [dec_t (by omega : (k : Int) < 4), cond_true]
    rw [named_val x k (by omega) (by omega) (by omega) h.w2 h.w3 h.w4, Option.bind_some, first_val _ _ (by omega), Option.bind_some, wrap_u8 (by omega) (by omega)]
    cases (sumOf (namedOf (k : Int) (x.2.2.2.1 ++ x.2.2.2.2.1) x.2.2.2.2.2.1)).2.1 with
    | false => rfl
    | true => cases decide ((sumOf (namedOf (k : Int) (x.2.2.2.1 ++ x.2.2.2.2.1) x.2.2.2.2.2.1)).1 > firstOf (k : Int) x.2.2.1) <;> rfl) rfl
  rw [show (((0 : Nat) : Int)) = 0 from rfl] at run
  unfold order_Good goodO
  rw [run, orderLines_val _ (by omega) h.w1, orderLines_val _ (by omega) h.w4, orderTakes_val _ _ (by omega), orderTakes_val _ _ (by omega)]
  simp only [Option.bind_some]
  cases (x.1 == 0) <;> cases decide (x.2.1 > 1) <;> cases ((x.2.2.1.length : Int) == 0) <;> cases linesB 4 x.2.2.1 <;> cases linesB 4 x.2.2.2.2.2.1 <;> cases takesO x.1 x.2.2.2.1 <;> cases takesO x.1 x.2.2.2.2.1 <;> cases allFrom (namedR x) 0 4 <;> rfl

/-- The first line of an article is the only one. -/
theorem first_want {l : List Ln} (h : linesB 4 l = true) (hw : ∀ x ∈ l, WfE kLine x) (k : Nat) (hk : k < 4) : firstOf k l = (wantOf l).getD k 0 := by
  have hlt := linesB_lt h
  have hz : (List.replicate 4 (0 : Int)).getD k 0 = 0 := by
    match k, hk with
    | 0, _ => rfl
    | 1, _ => rfl
    | 2, _ => rfl
    | 3, _ => rfl
  have hb : ∀ x ∈ l, 0 ≤ x.1 ∧ x.1 < 4 := fun x hx => ⟨(wf_u8 (hw x hx).1).1, (hlt x hx).1⟩
  have eqk : ∀ x : Ln, 0 ≤ x.1 → ((x.1 == (k : Int)) = decide (x.1.toNat = k)) := fun x h0 => by
    by_cases q : x.1 = (k : Int)
    · rw [dec_t (by omega), beq_iff_eq]; exact q
    · rw [dec_f (by omega), beq_eq_false_iff_ne]; exact q
  have f1 : ∀ (a : Ln) (r : List Ln), 0 ≤ a.1 → firstOf k (a :: r) = if a.1.toNat = k then a.2.1 else firstOf k r := by
    intro a r h0
    simp only [firstOf, firstF, walkL]
    rw [eqk a h0]
    by_cases q : a.1.toNat = k
    · rw [dec_t q, if_pos q]; rfl
    · rw [dec_f q, if_neg q]
      have : ∀ (r : List Ln) (i j : Nat), walkL (firstF (k : Int)) (fun _ => .inl ()) i r () = walkL (firstF (k : Int)) (fun _ => .inl ()) j r () := by
        intro r
        induction r with
        | nil => intro i j; rfl
        | cons b r ih =>
          intro i j
          simp only [walkL]
          have e : firstF (k : Int) i b () = firstF (k : Int) j b () := rfl
          rw [e]
          cases firstF (k : Int) j b () with
          | inr q => rfl
          | inl q => exact ih (i + 1) (j + 1)
      simp only [cond_false]
      rw [this r (0 + 1) 0]
  have f0 : firstOf k ([] : List Ln) = 0 := rfl
  rcases linesB_shape h with e | ⟨a, e⟩ | ⟨a, b, e, h1⟩ | ⟨a, b, c, e, h1, h2⟩ <;> subst e
  · rw [f0]; show 0 = (List.replicate 4 (0 : Int)).getD k 0; rw [hz]
  · have ha := hb a (by simp)
    simp only [wantOf, List.foldl_cons, List.foldl_nil]
    rw [f1 a _ ha.1, f0, set_at _ _ _ _ (by simp) (by omega), hz]
  · have ha := hb a (by simp)
    have hb' := hb b (by simp)
    simp only [wantOf, List.foldl_cons, List.foldl_nil]
    rw [f1 a _ ha.1, f1 b _ hb'.1, f0, set_at _ _ _ _ (by simp) (by omega), set_at _ _ _ _ (by simp) (by omega), hz]
    by_cases q : a.1.toNat = k
    · rw [if_pos q, if_neg (by omega), if_pos q]
    · rw [if_neg q, if_neg q]
  · have ha := hb a (by simp)
    have hb' := hb b (by simp)
    have hc := hb c (by simp)
    simp only [wantOf, List.foldl_cons, List.foldl_nil]
    rw [f1 a _ ha.1, f1 b _ hb'.1, f1 c _ hc.1, f0, set_at _ _ _ _ (by simp) (by omega), set_at _ _ _ _ (by simp) (by omega), set_at _ _ _ _ (by simp) (by omega), hz]
    by_cases q : a.1.toNat = k
    · rw [if_pos q, if_neg (by omega), if_neg (by omega), if_pos q]
    · rw [if_neg q, if_neg q]
      by_cases r : b.1.toNat = k
      · rw [if_pos r, if_neg (by omega), if_pos r]
      · rw [if_neg r, if_neg r]

theorem ref22Good_val (x : Ord) (h : FewO x) : pledgeref22_Good x = some (goodO x) := by
  have l1 := h.lines; have l2 := h.held; have l3 := h.sent; have l4 := h.owes
  unfold pledgeref22_Good goodO
  rw [refLines_val 4 _ (by omega) h.w1, refLines_val 4 _ (by omega) h.w4, ref22Takes_val _ _ (by omega), ref22Takes_val _ _ (by omega)]
  simp only [Option.bind_some]
  cases c : linesB 4 x.2.2.1 with
  | false => cases (x.1 == 0) <;> cases decide (x.2.1 > 1) <;> cases ((x.2.2.1.length : Int) == 0) <;> rfl
  | true =>
    have run := loop_all (step := pledgeref22_Good.l1) (fun k => (((), (k : Int)), (x, ()))) (namedR x) (.inl ()) (.inr false) 4 (by omega) (fun k hk => by
      unfold pledgeref22_Good.l1 namedR
      have e : IntKind.u8.wrap (k : Int) = (k : Int) := wrap_u8 (by omega) (by omega)
      simp only [dec_t (by omega : (k : Int) < 4), cond_true, e]
      rw [refnamed_val x k (by omega) (by omega) (by omega) h.w2 h.w3 h.w4, Option.bind_some, refNamed_val _ _ _ (by simp) (by omega) (by simp) h.w1, Option.bind_some]
      have en : namedOf (k : Int) [] x.2.2.1 = x.2.2.1.flatMap (ofLine k) := rfl
      rw [en, want_line c (by omega) h.w1 k hk, succ_i64 (by omega), first_want c h.w1 k hk]
      cases (sumOf (namedOf (k : Int) (x.2.2.2.1 ++ x.2.2.2.2.1) x.2.2.2.2.2.1)).2.1 with
      | false => rfl
      | true => cases decide ((sumOf (namedOf (k : Int) (x.2.2.2.1 ++ x.2.2.2.2.1) x.2.2.2.2.2.1)).1 > (wantOf x.2.2.1).getD k 0) <;> rfl) rfl
    rw [show (((0 : Nat) : Int)) = 0 from rfl] at run
    rw [run]
    simp only [Option.bind_some]
    cases (x.1 == 0) <;> cases decide (x.2.1 > 1) <;> cases ((x.2.2.1.length : Int) == 0) <;> cases linesB 4 x.2.2.2.2.2.1 <;> cases takesO x.1 x.2.2.2.1 <;> cases takesO x.1 x.2.2.2.2.1 <;> cases allFrom (namedR x) 0 4 <;> rfl
end Go.Proofs.Pure

/- One take more, put at its place among takes in order. -/
namespace Go.Proofs.Pure
open Go.Proofs.D Go.Proofs.F

def key (x : Tk) : Int := 4 * x.2.2.1 + x.2.1
structure Valid (id : Int) (x : Tk) : Prop where
  id : x.1 = id
  sku : 0 ≤ x.2.1 ∧ x.2.1 < 4
  ware : 0 ≤ x.2.2.1 ∧ x.2.2.1 < 4
  qty : 1 ≤ x.2.2.2.1 ∧ x.2.2.2.1 < 9223372036854775808

/-- In order, above lo. -/
def okFrom (id : Int) : Int → List Tk → Prop
  | _, [] => True
  | lo, x :: l => Valid id x ∧ lo < key x ∧ okFrom id (key x) l

theorem key_lt {id jd : Int} {x y : Tk} (hx : Valid id x) (hy : Valid jd y) : tkPrev x y = decide (key x < key y) := boolEq (by
  have h1 := hx.sku; have h2 := hy.sku; have h3 := hx.ware; have h4 := hy.ware
  unfold tkPrev key
  simp only [Bool.and_eq_true, Bool.not_eq_true', decide_eq_false_iff_not, Bool.and_eq_false_iff, beq_eq_false_iff_ne, ne_eq, decide_eq_true_eq]
  omega)

theorem base_valid {id : Int} {x : Tk} (hw : WfE kTake x) : tkBase 4 4 id x = true ↔ Valid id x := by
  have h1 := wf_u8 hw.2.1; have h2 := wf_u8 hw.2.2.1; have h3 := wf_i64 hw.2.2.2.1
  unfold tkBase
  simp only [Bool.and_eq_true, Bool.not_eq_true', decide_eq_false_iff_not, bne_eq_false_iff_eq]
  constructor
  · rintro ⟨a, b, c, d⟩; exact ⟨a, by omega, by omega, by omega⟩
  · rintro ⟨a, b, c, d⟩; exact ⟨a, by omega, by omega, by omega⟩

def keyB (l : List Tk) : Nat → Int | 0 => -1 | j + 1 => key (at1 l j)

theorem ok_of_takes {id : Int} {l : List Tk} (hw : ∀ x ∈ l, WfE kTake x) (h : takesO id l = true) : ∀ (k j : Nat), j + k = l.length → okFrom id (keyB l j) (l.drop j)
  | 0, j, hj => by rw [List.drop_eq_nil_iff.2 (by omega)]; trivial
  | k + 1, j, hj => by
    have hlt : j < l.length := by omega
    have hg := at1_get hlt
    have hd : l.drop j = at1 l j :: l.drop (j + 1) := by
      rw [List.drop_eq_getElem_cons hlt]
      have e := List.getElem?_eq_getElem hlt
      rw [hg] at e; rw [Option.some.inj e]
    have hq := (allFrom_iff.1 h) j (by omega) (by omega)
    unfold takeQ at hq
    simp only [Bool.and_eq_true, Bool.or_eq_true] at hq
    have hv := (base_valid (hw _ (get_mem hg))).1 hq.1
    rw [hd]
    refine ⟨hv, ?_, ok_of_takes hw h k (j + 1) (by omega)⟩
    cases j with
    | zero => have := hv.sku; have := hv.ware; show -1 < key (at1 l 0); unfold key; omega
    | succ j =>
      have hg' := at1_get (by omega : j < l.length)
      have hq' := (allFrom_iff.1 h) j (by omega) (by omega)
      unfold takeQ at hq'
      simp only [Bool.and_eq_true] at hq'
      have hv' := (base_valid (hw _ (get_mem hg'))).1 hq'.1
      rcases hq.2 with q | q
      · cases q
      · rw [Nat.add_sub_cancel, key_lt hv' hv, decide_eq_true_eq] at q; exact q

theorem ok_of {id : Int} {l : List Tk} (hw : ∀ x ∈ l, WfE kTake x) (h : takesO id l = true) : okFrom id (-1) l := by
  have := ok_of_takes hw h l.length 0 (by omega)
  simpa [keyB] using this

theorem okFrom.mem {id lo : Int} : ∀ {l : List Tk}, okFrom id lo l → ∀ x ∈ l, Valid id x ∧ lo < key x
  | [], _, x, hx => by cases hx
  | y :: l, ⟨h1, h2, h3⟩, x, hx => by
    rcases List.mem_cons.1 hx with e | hx
    · subst e; exact ⟨h1, h2⟩
    · obtain ⟨a, b⟩ := okFrom.mem h3 x hx; exact ⟨a, by omega⟩

theorem okFrom.lo {id lo lo' : Int} (h : lo' ≤ lo) : ∀ {l : List Tk}, okFrom id lo l → okFrom id lo' l
  | [], _ => trivial
  | x :: l, ⟨h1, h2, h3⟩ => ⟨h1, by omega, h3⟩

theorem takes_of_ok {id : Int} : ∀ {l : List Tk}, okFrom id (-1) l → takesO id l = true := by
  intro l h
  have go : ∀ (k j : Nat) (lo : Int), j + k = l.length → okFrom id lo (l.drop j) → (j = 0 ∨ ∃ y, at1 l (j - 1) = y ∧ Valid id y ∧ key y ≤ lo) → ∀ i, j ≤ i → i < l.length → takeQ 4 4 id l i = true := by
    intro k
    induction k with
    | zero => intro j lo hj _ _ i h1 h2; omega
    | succ k ih =>
      intro j lo hj hok hp i h1 h2
      have hlt : j < l.length := by omega
      have hg := at1_get hlt
      have hd : l.drop j = at1 l j :: l.drop (j + 1) := by
        rw [List.drop_eq_getElem_cons hlt]
        have e := List.getElem?_eq_getElem hlt
        rw [hg] at e; rw [Option.some.inj e]
      rw [hd] at hok
      obtain ⟨v1, v2, v3⟩ := hok
      by_cases e : i = j
      · subst e
        unfold takeQ
        have hb : tkBase 4 4 id (at1 l i) = true := by
          unfold tkBase
          simp only [Bool.and_eq_true, Bool.not_eq_true', decide_eq_false_iff_not, bne_eq_false_iff_eq]
          have := v1.id; have := v1.sku; have := v1.ware; have := v1.qty
          exact ⟨v1.id, by omega, by omega, by omega⟩
        rw [hb, Bool.true_and]
        rcases hp with e | ⟨y, e1, e2, e3⟩
        · subst e; rfl
        · cases i with
          | zero => rfl
          | succ i => rw [e1, key_lt e2 v1, dec_t (by omega), Bool.or_true]
      · exact ih (j + 1) _ (by omega) v3 (.inr ⟨_, rfl, v1, Int.le_refl _⟩) i (by omega) h2
  unfold takesO
  rw [allFrom_iff]
  exact fun i h1 h2 => go l.length 0 (-1) (by omega) (by simpa using h) (.inl rfl) i (by omega) (by omega)

/-! ### Putting one more -/
def merge (x t : Tk) : Tk := (x.1, (x.2.1, (x.2.2.1, (x.2.2.2.1 + t.2.2.2.1, x.2.2.2.2))))
def ins (t : Tk) : List Tk → List Tk
  | [] => [t]
  | x :: l => if key x < key t then x :: ins t l else if key x = key t then merge x t :: l else t :: x :: l
def posOf (t : Tk) : List Tk → Nat
  | [] => 0
  | x :: l => if key x < key t then posOf t l + 1 else 0
theorem posOf_le (t : Tk) : ∀ l, posOf t l ≤ l.length
  | [] => Nat.le_refl _
  | x :: l => by unfold posOf; split; have := posOf_le t l; simp; omega; simp

theorem ins_pos (t : Tk) : ∀ l : List Tk, ins t l = match l[posOf t l]? with
    | none => l.take (posOf t l) ++ [t]
    | some x => if key x = key t then l.set (posOf t l) (merge x t) else l.take (posOf t l) ++ t :: l.drop (posOf t l)
  | [] => rfl
  | x :: l => by
    unfold ins posOf
    by_cases h : key x < key t
    · rw [if_pos h, if_pos h, ins_pos t l]
      simp only [List.getElem?_cons_succ, List.take_succ_cons, List.drop_succ_cons, List.set_cons_succ, List.cons_append]
      split
      · rfl
      · split <;> rfl
    · rw [if_neg h, if_neg h]
      simp only [List.getElem?_cons_zero, List.take_zero, List.drop_zero, List.nil_append, List.set_cons_zero]

theorem pos_not (t : Tk) : ∀ {l : List Tk} {x : Tk}, l[posOf t l]? = some x → ¬ key x < key t
  | [], _, h => by cases h
  | y :: l, x, h => by
    unfold posOf at h
    by_cases q : key y < key t
    · rw [if_pos q] at h; exact pos_not t (by simpa using h)
    · rw [if_neg q] at h; simp only [List.getElem?_cons_zero, Option.some.injEq] at h; rw [← h]; exact q

theorem with_loop (t : Tk) (l : List Tk) (hl : l.length < 1000) (ht : ∃ id, Valid id t) (hv : ∀ x ∈ l, ∃ id, Valid id x) : ∀ (k j : Nat), j + k = l.length →
    iterL order_with.l1 (k + 1) ((l, ((), (j : Int))), (t, ())) = some ((l, ((), ((j + posOf t (l.drop j) : Nat) : Int))), (t, ()))
  | 0, j, hj => by
    rw [List.drop_eq_nil_iff.2 (by omega)]
    refine iterL_done ?_
    unfold order_with.l1
    simp only [dec_f (show ¬ (j : Int) < (l.length : Int) by omega), cond_false]
    rfl
  | k + 1, j, hj => by
    have hlt : j < l.length := by omega
    have hg := at1_get hlt
    have hd : l.drop j = at1 l j :: l.drop (j + 1) := by
      rw [List.drop_eq_getElem_cons hlt]
      have e := List.getElem?_eq_getElem hlt
      rw [hg] at e; rw [Option.some.inj e]
    obtain ⟨i1, v1⟩ := ht
    obtain ⟨i2, v2⟩ := hv _ (get_mem hg)
    rw [hd]
    unfold posOf
    by_cases q : key (at1 l j) < key t
    · rw [if_pos q]
      have hs : order_with.l1 ((l, ((), (j : Int))), (t, ())) = some (.inl ((l, ((), ((j + 1 : Nat) : Int))), (t, ()))) := by
        unfold order_with.l1
        simp only [dec_t (show (j : Int) < (l.length : Int) by omega), cond_true]
        rw [nthK_get hg, ahead_val, Option.bind_some, key_lt v2 v1, dec_t q, succ_i64 (by omega)]
        rfl
      rw [iterL_next hs, with_loop t l hl ⟨i1, v1⟩ hv k (j + 1) (by omega)]
      rw [show j + 1 + posOf t (l.drop (j + 1)) = j + (posOf t (l.drop (j + 1)) + 1) by omega]
    · rw [if_neg q]
      refine iterL_done ?_
      unfold order_with.l1
      simp only [dec_t (show (j : Int) < (l.length : Int) by omega), cond_true]
      rw [nthK_get hg, ahead_val, Option.bind_some, key_lt v2 v1, dec_f q]
      rfl

theorem with_val (t : Tk) (l : List Tk) (hl : l.length < 1000) (ht : ∃ id, Valid id t) (hv : ∀ x ∈ l, ∃ id, Valid id x) (hf : ∀ x ∈ l, key x = key t → x.2.2.2.1 + t.2.2.2.1 < 9223372036854775808) : order_with l t = some (ins t l) := by
  unfold order_with
  have run := iterL_mono (with_loop t l hl ht hv l.length 0 (by omega)) (m := loopN) (by rw [loopN_eq]; omega)
  rw [show (((0 : Nat) : Int)) = 0 from rfl, List.drop_zero, Nat.zero_add] at run
  rw [run, Option.bind_some]
  simp only []
  have hp := posOf_le t l
  obtain ⟨i1, v1⟩ := ht
  have tail : (chk (decide (0 ≤ (posOf t l : Int)) && decide ((posOf t l : Int) ≤ (l.length : Int))) (chk ((posOf t l : Int) == (posOf t l : Int)) (room (((l.take ((posOf t l : Int)).toNat).drop 0).length + [t].length) (chk (decide (0 ≤ (posOf t l : Int)) && decide ((posOf t l : Int) ≤ (l.length : Int))) (room ((((l.take ((posOf t l : Int)).toNat).drop 0) ++ [t]).length + ((l.take l.length).drop ((posOf t l : Int)).toNat).length) (some ((((l.take ((posOf t l : Int)).toNat).drop 0) ++ [t]) ++ ((l.take l.length).drop ((posOf t l : Int)).toNat))))))) : Option (List Tk)) = some (l.take (posOf t l) ++ t :: l.drop (posOf t l)) := by
    have c1 : (decide (0 ≤ (posOf t l : Int)) && decide ((posOf t l : Int) ≤ (l.length : Int))) = true := by rw [dec_t (by omega), dec_t (by omega)]; rfl
    rw [chk_true c1, chk_true (by simp), room_ok (by simp; omega), chk_true c1, room_ok (by simp; omega)]
    simp only [Int.toNat_natCast, List.drop_zero, List.take_length, List.append_assoc, List.singleton_append]
  cases h : l[posOf t l]? with
  | none =>
    have hge : l.length ≤ posOf t l := List.getElem?_eq_none_iff.1 h
    rw [dec_f (by omega : ¬ (posOf t l : Int) < (l.length : Int))]
    simp only [cond_false]
    refine tail.trans ?_
    rw [ins_pos, h, List.drop_eq_nil_iff.2 hge]
  | some x =>
    have hlt := get_lt h
    obtain ⟨i2, v2⟩ := hv x (get_mem h)
    have hn := pos_not t h
    rw [dec_t (by omega : (posOf t l : Int) < (l.length : Int))]
    simp only [cond_true]
    rw [nthK_get h, ahead_val, Option.bind_some, key_lt v1 v2, ins_pos, h]
    simp only []
    by_cases e : key x = key t
    · rw [dec_f (by omega), if_pos e]
      unfold slices_Clone_api_Take_api_Take
      rw [room_ok (by omega)]
      simp only [Bool.not_false, cond_true, Option.bind_some]
      have c1 : (decide (0 ≤ (posOf t l : Int)) && decide ((posOf t l : Int) < (l.length : Int))) = true := by rw [dec_t (by omega), dec_t (by omega)]; rfl
      rw [chk_true c1, nthK_get h, chk_true c1]
      show nthN l (posOf t l) _ = _
      rw [nthN_get h]
      have hq1 := v1.qty; have hq2 := v2.qty
      have hs := hf x (get_mem h) e
      rw [wrap_i64 (by omega) (by omega)]
      rfl
    · rw [dec_t (by omega), if_neg e]
      simp only [Bool.not_true, cond_false]
      exact tail

theorem ins_len (t : Tk) : ∀ l : List Tk, (ins t l).length ≤ l.length + 1
  | [] => by simp [ins]
  | x :: l => by
    unfold ins
    split
    · have := ins_len t l; simp; omega
    · split <;> simp

/-! ### The document's way -/
theorem sumOf_fit {l : List Int} (h1 : -9223372036854775808 ≤ total l) (h2 : total l < 9223372036854775808) : sumOf l = (total l, (true, ())) := by
  unfold sumOf fitsI
  rw [dec_t h1, dec_t h2]; rfl
theorem sumOf_two {a b : Int} (ha : 1 ≤ a) (hb : 1 ≤ b) (h : a + b < 9223372036854775808) : sumOf [a, b] = (a + b, (true, ())) := by
  have e : total [a, b] = a + b := by simp [total]
  rw [sumOf_fit (by rw [e]; omega) (by rw [e]; exact h), e]

abbrev WAcc := Bool × List Tk
def wF (t : Tk) : Nat → Tk → WAcc → WAcc ⊕ ((Unit × Unit × Bool) × Tk × List Tk × Unit) := fun _ x a =>
  let b : WAcc := bif !a.1 && decide (key x > key t) then (true, a.2 ++ [t]) else a
  bif decide (key x = key t) then .inl (true, b.2 ++ [merge x t]) else .inl (b.1, b.2 ++ [x])
def wEnd (t : Tk) : WAcc → (Unit × Unit × Bool) × Tk × List Tk × Unit := fun a => (((), ((), a.1)), (t, (a.2, ())))

theorem walk_done (t : Tk) {id : Int} : ∀ (l : List Tk) (i : Nat) (out : List Tk), okFrom id (key t) l → walkL (wF t) (wEnd t) i l (true, out) = wEnd t (true, out ++ l)
  | [], i, out, _ => by simp [walkL]
  | x :: l, i, out, ⟨h1, h2, h3⟩ => by
    have e : wF t i x (true, out) = .inl (true, out ++ [x]) := by
      unfold wF
      simp only [Bool.not_true, Bool.false_and, cond_false]
      rw [dec_f (by omega)]; rfl
    simp only [walkL, e]
    rw [walk_done t l (i + 1) (out ++ [x]) (h3.lo (by omega)), List.append_assoc]; rfl

theorem walk_with (t : Tk) {id : Int} : ∀ (l : List Tk) (i : Nat) (lo : Int) (out : List Tk), okFrom id lo l → ∃ d o, walkL (wF t) (wEnd t) i l (false, out) = wEnd t (d, o) ∧ (bif !d then o ++ [t] else o) = out ++ ins t l
  | [], i, lo, out, _ => ⟨false, out, rfl, rfl⟩
  | x :: l, i, lo, out, ⟨h1, h2, h3⟩ => by
    unfold ins
    by_cases q : key x < key t
    · have e : wF t i x (false, out) = .inl (false, out ++ [x]) := by
        unfold wF
        rw [dec_f (by omega : ¬ key x > key t), dec_f (by omega : ¬ key x = key t)]; rfl
      obtain ⟨d, o, g1, g2⟩ := walk_with t l (i + 1) (key x) (out ++ [x]) h3
      refine ⟨d, o, by simp only [walkL, e]; exact g1, ?_⟩
      rw [if_pos q, g2, List.append_assoc]; rfl
    · rw [if_neg q]
      by_cases r : key x = key t
      · have e : wF t i x (false, out) = .inl (true, out ++ [merge x t]) := by
          unfold wF
          rw [dec_f (by omega : ¬ key x > key t), dec_t r]; rfl
        refine ⟨true, out ++ [merge x t] ++ l, by simp only [walkL, e]; exact walk_done t l (i + 1) _ (h3.lo (by omega)), ?_⟩
        rw [if_pos r]; simp
      · have e : wF t i x (false, out) = .inl (true, out ++ [t] ++ [x]) := by
          unfold wF
          rw [dec_t (by omega : key x > key t), dec_f r]; rfl
        refine ⟨true, out ++ [t] ++ [x] ++ l, by simp only [walkL, e]; exact walk_done t l (i + 1) _ (h3.lo (by omega)), ?_⟩
        rw [if_neg r]; simp

theorem key_gt {id jd : Int} {x t : Tk} (hx : Valid id x) (ht : Valid jd t) : ((x.2.2.1 > t.2.2.1) ∨ (x.2.2.1 = t.2.2.1 ∧ x.2.1 > t.2.1)) ↔ key x > key t := by
  have h1 := hx.sku; have h2 := ht.sku
  unfold key; omega
theorem key_eq {id jd : Int} {x t : Tk} (hx : Valid id x) (ht : Valid jd t) : (x.2.2.1 = t.2.2.1 ∧ x.2.1 = t.2.1) ↔ key x = key t := by
  have h1 := hx.sku; have h2 := ht.sku
  unfold key; omega

theorem With_val (t : Tk) (l : List Tk) {id lo : Int} (hl : l.length < 1000) (ht : ∃ jd, Valid jd t) (hok : okFrom id lo l) (hf : ∀ x ∈ l, key x = key t → x.2.2.2.1 + t.2.2.2.1 < 9223372036854775808) : pledgeref22_With l t = some (ins t l) := by
  unfold pledgeref22_With
  obtain ⟨jd, v1⟩ := ht
  have run := loop_walk (step := pledgeref22_With.l1) l (fun i (a : WAcc) => ((l, ((), ((), (a.1, (i : Int))))), (t, (a.2, ())))) (wF t) (wEnd t) (fun i a => a.2.length ≤ 2 * i) (false, []) (by omega) (by simp) (fun i x a hx hI => by
    obtain ⟨d, out⟩ := a
    have hi := get_lt hx
    obtain ⟨v2, -⟩ := hok.mem x (get_mem hx)
    have hk := key_gt v2 v1
    have he := key_eq v2 v1
    simp only at hI
    refine ⟨?_, fun b h => ?_⟩
    · unfold pledgeref22_With.l1 wF
      simp only [dec_t (show (i : Int) < (l.length : Int) by omega), cond_true]
      rw [nthK_get hx]
      have w3 := succ_i64 (show i < 9223372036854775807 by omega)
      have first : (bif !d then bif decide (x.2.2.1 > t.2.2.1) then room (out.length + [t].length) (some (((l, ((), ((), (true, ((i : Int), ()))))), (t, (out ++ [t], (x, ())))))) else bif (x.2.2.1 : Int) == t.2.2.1 then bif decide (x.2.1 > t.2.1) then room (out.length + [t].length) (some (((l, ((), ((), (true, ((i : Int), ()))))), (t, (out ++ [t], (x, ())))))) else some (((l, ((), ((), (d, ((i : Int), ()))))), (t, (out, (x, ()))))) else some (((l, ((), ((), (d, ((i : Int), ()))))), (t, (out, (x, ()))))) else some (((l, ((), ((), (d, ((i : Int), ()))))), (t, (out, (x, ()))))) : Option ((List Tk × Unit × Unit × Bool × Int × Unit) × Tk × List Tk × Tk × Unit)) =
          some ((l, ((), ((), ((bif !d && decide (key x > key t) then (true, out ++ [t]) else (d, out) : WAcc).1, ((i : Int), ()))))), (t, ((bif !d && decide (key x > key t) then (true, out ++ [t]) else (d, out) : WAcc).2, (x, ())))) := by
        rw [room_ok (by simp; omega)]
        cases d with
        | true => rfl
        | false =>
          by_cases q1 : x.2.2.1 > t.2.2.1
          · rw [dec_t q1, dec_t (hk.1 (.inl q1))]; rfl
          · by_cases q2 : x.2.2.1 = t.2.2.1
            · by_cases q3 : x.2.1 > t.2.1
              · rw [dec_f q1, dec_t q3, dec_t (hk.1 (.inr ⟨q2, q3⟩)), show (x.2.2.1 == t.2.2.1) = true by rw [beq_iff_eq]; exact q2]; rfl
              · rw [dec_f q1, dec_f q3, dec_f (p := key x > key t) (fun h => by rcases hk.2 h with h | h; exact q1 h; exact q3 h.2), show (x.2.2.1 == t.2.2.1) = true by rw [beq_iff_eq]; exact q2]; rfl
            · rw [dec_f q1, dec_f (p := key x > key t) (fun h => by rcases hk.2 h with h | h; exact q1 h; exact q2 h.1), show (x.2.2.1 == t.2.2.1) = false by rw [beq_eq_false_iff_ne]; exact q2]; rfl
      rw [first, Option.bind_some]
      generalize hb : (bif !d && decide (key x > key t) then (true, out ++ [t]) else (d, out) : WAcc) = b
      have hbl : b.2.length ≤ 2 * i + 1 := by rw [← hb]; cases (!d && decide (key x > key t)) <;> simp <;> omega
      simp only []
      have hq1 := v1.qty; have hq2 := v2.qty
      by_cases e : key x = key t
      · have hs := hf x (get_mem hx) e
        have hadd : pledgeref01_Add x.2.2.2.1 t.2.2.2.1 = some (x.2.2.2.1 + t.2.2.2.1, (true, ())) := by
          unfold pledgeref01_Add
          rw [refsum_all _ (by simp) (fun n hn => by simp only [List.mem_cons, List.not_mem_nil, or_false] at hn; rcases hn with rfl | rfl <;> omega), sumOf_two hq2.1 hq1.1 hs]; rfl
        obtain ⟨e1, e2⟩ := he.2 e
        rw [dec_t e, show (x.2.2.1 == t.2.2.1) = true by rw [beq_iff_eq]; exact e1, show (x.2.1 == t.2.1) = true by rw [beq_iff_eq]; exact e2]
        simp only [cond_true]
        rw [hadd, Option.bind_some, room_ok (by simp; omega), w3]
        rfl
      · rw [dec_f e]
        by_cases e1 : x.2.2.1 = t.2.2.1
        · have e2 : ¬ x.2.1 = t.2.1 := fun h => e (he.1 ⟨e1, h⟩)
          rw [show (x.2.2.1 == t.2.2.1) = true by rw [beq_iff_eq]; exact e1, show (x.2.1 == t.2.1) = false by rw [beq_eq_false_iff_ne]; exact e2]
          simp only [cond_true, cond_false]
          rw [room_ok (by simp; omega), w3]
        · rw [show (x.2.2.1 == t.2.2.1) = false by rw [beq_eq_false_iff_ne]; exact e1]
          simp only [cond_false]
          rw [room_ok (by simp; omega), w3]
    · unfold wF at h
      simp only [] at h
      have hbl : (bif !d && decide (key x > key t) then (true, out ++ [t]) else (d, out) : WAcc).2.length ≤ 2 * i + 1 := by cases (!d && decide (key x > key t)) <;> simp <;> omega
      cases hq : decide (key x = key t) with
      | true => rw [hq] at h; cases h; simp only [List.length_append, List.length_singleton]; omega
      | false => rw [hq] at h; cases h; simp only [List.length_append, List.length_singleton]; omega) (fun a _ => by
    unfold pledgeref22_With.l1
    simp only [dec_f (show ¬ (l.length : Int) < (l.length : Int) by omega), cond_false]
    rfl)
  rw [show (((0 : Nat) : Int)) = 0 from rfl] at run
  obtain ⟨d, o, g1, g2⟩ := walk_with t l 0 lo [] hok
  rw [g1] at run
  rw [run, Option.bind_some]
  unfold wEnd
  simp only []
  have hins : (ins t l).length ≤ l.length + 1 := ins_len t l
  rw [List.nil_append] at g2
  cases d with
  | true => simp only [Bool.not_true, cond_false] at g2 ⊢; rw [g2]
  | false =>
    simp only [Bool.not_false, cond_true] at g2 ⊢
    have : o.length + 1 = (ins t l).length := by rw [← g2]; simp
    rw [room_ok (by simp; omega), g2]
end Go.Proofs.Pure

/- Orders that turn: what they name stays. -/
namespace Go.Proofs.Pure
open Go.Proofs.D Go.Proofs.F

def T (k : Int) (l : List Tk) : Int := total (l.flatMap (ofTake k))
def L (k : Int) (l : List Ln) : Int := total (l.flatMap (ofLine k))
theorem T_nil (k : Int) : T k [] = 0 := rfl
theorem T_cons (k : Int) (x : Tk) (l : List Tk) : T k (x :: l) = (if x.2.1 = k then x.2.2.2.1 else 0) + T k l := by
  unfold T ofTake
  rw [List.flatMap_cons, total_append]
  by_cases h : x.2.1 = k
  · rw [show (x.2.1 == k) = true by rw [beq_iff_eq]; exact h, if_pos h]; simp [total]
  · rw [show (x.2.1 == k) = false by rw [beq_eq_false_iff_ne]; exact h, if_neg h]; simp [total]
theorem L_cons (k : Int) (x : Ln) (l : List Ln) : L k (x :: l) = (if x.1 = k then x.2.1 else 0) + L k l := by
  unfold L ofLine
  rw [List.flatMap_cons, total_append]
  by_cases h : x.1 = k
  · rw [show (x.1 == k) = true by rw [beq_iff_eq]; exact h, if_pos h]; simp [total]
  · rw [show (x.1 == k) = false by rw [beq_eq_false_iff_ne]; exact h, if_neg h]; simp [total]
theorem T_append (k : Int) (a b : List Tk) : T k (a ++ b) = T k a + T k b := by unfold T; rw [List.flatMap_append, total_append]
theorem named_total (k : Int) (t : List Tk) (l : List Ln) : total (namedOf k t l) = T k t + L k l := by unfold namedOf T L; rw [total_append]
theorem sumOf_congr {a b : List Int} (h : total a = total b) : sumOf a = sumOf b := by unfold sumOf; rw [h]

theorem T_nonneg {id lo : Int} (k : Int) : ∀ {l : List Tk}, okFrom id lo l → 0 ≤ T k l
  | [], _ => Int.le_refl _
  | x :: l, ⟨h1, _, h3⟩ => by
    have := T_nonneg k h3
    have := h1.qty
    rw [T_cons]; split <;> omega
theorem T_mem {id lo : Int} : ∀ {l : List Tk}, okFrom id lo l → ∀ x ∈ l, x.2.2.2.1 ≤ T x.2.1 l
  | [], _, x, hx => by cases hx
  | y :: l, ⟨h1, _, h3⟩, x, hx => by
    have hn := T_nonneg x.2.1 h3
    have hq := h1.qty
    rw [T_cons]
    rcases List.mem_cons.1 hx with e | hx
    · subst e; rw [if_pos rfl]; omega
    · have := T_mem h3 x hx
      split <;> omega

theorem key_sku {id jd : Int} {x t : Tk} (hx : Valid id x) (ht : Valid jd t) (h : key x = key t) : x.2.1 = t.2.1 := ((key_eq hx ht).2 h).2

theorem ins_T {id : Int} {t : Tk} (ht : Valid id t) (k : Int) : ∀ {l : List Tk} {lo : Int}, okFrom id lo l → T k (ins t l) = T k l + (if t.2.1 = k then t.2.2.2.1 else 0)
  | [], _, _ => by unfold ins; rw [T_cons, T_nil]; omega
  | x :: l, lo, ⟨h1, h2, h3⟩ => by
    unfold ins
    by_cases q : key x < key t
    · rw [if_pos q, T_cons, T_cons, ins_T ht k h3]; omega
    · rw [if_neg q]
      by_cases r : key x = key t
      · rw [if_pos r, T_cons, T_cons]
        have e := key_sku h1 ht r
        unfold merge
        simp only []
        rw [e]
        split <;> omega
      · rw [if_neg r, T_cons]; omega

theorem ins_ok {id : Int} {t : Tk} (ht : Valid id t) : ∀ {l : List Tk} {lo : Int}, okFrom id lo l → lo < key t → (∀ x ∈ l, key x = key t → x.2.2.2.1 + t.2.2.2.1 < 9223372036854775808) → okFrom id lo (ins t l)
  | [], lo, _, hlo, _ => ⟨ht, hlo, trivial⟩
  | x :: l, lo, ⟨h1, h2, h3⟩, hlo, hf => by
    unfold ins
    by_cases q : key x < key t
    · rw [if_pos q]
      exact ⟨h1, h2, ins_ok ht h3 q fun y hy => hf y (List.mem_cons_of_mem _ hy)⟩
    · rw [if_neg q]
      by_cases r : key x = key t
      · rw [if_pos r]
        have hq1 := h1.qty; have hq2 := ht.qty
        have := hf x List.mem_cons_self r
        exact ⟨⟨h1.id, h1.sku, h1.ware, by show 1 ≤ x.2.2.2.1 + t.2.2.2.1 ∧ x.2.2.2.1 + t.2.2.2.1 < 9223372036854775808; omega⟩, h2, h3⟩
      · rw [if_neg r]
        exact ⟨ht, hlo, h1, by omega, h3⟩

theorem wf_mk_i64 {n : Int} (h1 : -9223372036854775808 ≤ n) (h2 : n < 9223372036854775808) : (Lit.int .i64 n).wf = true := by
  simp only [Lit.wf, Bool.and_eq_true, decide_eq_true_eq, show IntKind.i64.min = -9223372036854775808 by decide, show IntKind.i64.max = 9223372036854775807 by decide]
  omega

theorem ins_wf {id : Int} {t : Tk} (hw : WfE kTake t) (ht : Valid id t) : ∀ {l : List Tk} {lo : Int}, okFrom id lo l → (∀ x ∈ l, key x = key t → x.2.2.2.1 + t.2.2.2.1 < 9223372036854775808) → (∀ x ∈ l, WfE kTake x) → ∀ x ∈ ins t l, WfE kTake x
  | [], lo, _, _, _, x, hx => by rcases List.mem_singleton.1 hx with rfl; exact hw
  | y :: l, lo, ⟨h1, h2, h3⟩, hf, hl, x, hx => by
    unfold ins at hx
    by_cases q : key y < key t
    · rw [if_pos q] at hx
      rcases List.mem_cons.1 hx with e | hx
      · subst e; exact hl _ List.mem_cons_self
      · exact ins_wf hw ht h3 (fun y hy => hf y (List.mem_cons_of_mem _ hy)) (fun y hy => hl y (List.mem_cons_of_mem _ hy)) x hx
    · rw [if_neg q] at hx
      by_cases r : key y = key t
      · rw [if_pos r] at hx
        rcases List.mem_cons.1 hx with e | hx
        · subst e
          have hy := hl y List.mem_cons_self
          have := hf y List.mem_cons_self r
          have hq1 := h1.qty; have hq2 := ht.qty
          exact ⟨hy.1, hy.2.1, hy.2.2.1, wf_mk_i64 (by show -9223372036854775808 ≤ y.2.2.2.1 + t.2.2.2.1; omega) this, trivial⟩
        · exact hl x (List.mem_cons_of_mem _ hx)
      · rw [if_neg r] at hx
        rcases List.mem_cons.1 hx with e | hx
        · subst e; exact hw
        · exact hl x hx

/-! ### Lines in order -/
def lnFrom : Int → List Ln → Prop
  | _, [] => True
  | lo, x :: l => lo < x.1 ∧ x.1 < 4 ∧ 1 ≤ x.2.1 ∧ lnFrom x.1 l

def lnB (l : List Ln) : Nat → Int | 0 => -1 | j + 1 => (at0 l j).1
theorem ln_of_lines {l : List Ln} (hw : ∀ x ∈ l, WfE kLine x) (h : allFrom (lineR 4 l) 0 l.length = true) : ∀ (k j : Nat), j + k = l.length → lnFrom (lnB l j) (l.drop j)
  | 0, j, hj => by rw [List.drop_eq_nil_iff.2 (by omega)]; trivial
  | k + 1, j, hj => by
    have hlt : j < l.length := by omega
    have hg := at_get hlt
    have hd : l.drop j = at0 l j :: l.drop (j + 1) := by
      rw [List.drop_eq_getElem_cons hlt]
      have e := List.getElem?_eq_getElem hlt
      rw [hg] at e; rw [Option.some.inj e]
    have hq := (allFrom_iff.1 h) j (by omega) (by omega)
    unfold lineR at hq
    simp only [Bool.and_eq_true, Bool.or_eq_true, Bool.not_eq_true', decide_eq_false_iff_not] at hq
    have hw1 := wfL hw hlt
    rw [hd]
    refine ⟨?_, by omega, by omega, ln_of_lines hw h k (j + 1) (by omega)⟩
    cases j with
    | zero => show -1 < (at0 l 0).1; omega
    | succ j =>
      rcases hq.2.2 with q | q
      · cases q
      · rw [Nat.add_sub_cancel] at q; show (at0 l j).1 < _; omega
theorem ln_of {l : List Ln} (hw : ∀ x ∈ l, WfE kLine x) (h : linesB 4 l = true) : lnFrom (-1) l ∧ l.length ≤ 3 := by
  unfold linesB at h
  simp only [Bool.and_eq_true, decide_eq_true_eq] at h
  have := ln_of_lines hw h.1 l.length 0 (by omega)
  exact ⟨by simpa [lnB] using this, by omega⟩

theorem lines_of_ln {l : List Ln} (h : lnFrom (-1) l) (hl : l.length ≤ 3) : linesB 4 l = true := by
  have go : ∀ (k j : Nat) (lo : Int), j + k = l.length → lnFrom lo (l.drop j) → (j = 0 ∨ (at0 l (j - 1)).1 ≤ lo) → ∀ i, j ≤ i → i < l.length → lineR 4 l i = true := by
    intro k
    induction k with
    | zero => intro j lo hj _ _ i h1 h2; omega
    | succ k ih =>
      intro j lo hj hok hp i h1 h2
      have hlt : j < l.length := by omega
      have hg := at_get hlt
      have hd : l.drop j = at0 l j :: l.drop (j + 1) := by
        rw [List.drop_eq_getElem_cons hlt]
        have e := List.getElem?_eq_getElem hlt
        rw [hg] at e; rw [Option.some.inj e]
      rw [hd] at hok
      obtain ⟨v1, v2, v3, v4⟩ := hok
      by_cases e : i = j
      · subst e
        unfold lineR
        rw [dec_f (by omega : ¬ (at0 l i).1 ≥ 4), dec_f (by omega : ¬ (at0 l i).2.1 < 1)]
        rcases hp with e | e
        · subst e; rfl
        · cases i with
          | zero => rfl
          | succ i => rw [dec_f (by omega : ¬ (at0 l (i + 1 - 1)).1 ≥ (at0 l (i + 1)).1), Bool.not_false, Bool.or_true]; rfl
      · exact ih (j + 1) _ (by omega) v4 (.inr (Int.le_refl _)) i (by omega) h2
  unfold linesB
  rw [Bool.and_eq_true, decide_eq_true_eq]
  exact ⟨allFrom_iff.2 fun i h1 h2 => go l.length 0 (-1) (by omega) (by simpa using h) (.inl rfl) i (by omega) (by omega), by omega⟩

theorem first_cons (k : Int) (a : Ln) (r : List Ln) : firstOf k (a :: r) = if a.1 = k then a.2.1 else firstOf k r := by
  have shift : ∀ (r : List Ln) (i j : Nat), walkL (firstF k) (fun _ => .inl ()) i r () = walkL (firstF k) (fun _ => .inl ()) j r () := by
    intro r
    induction r with
    | nil => intro i j; rfl
    | cons b r ih =>
      intro i j
      simp only [walkL]
      have e : firstF k i b () = firstF k j b () := rfl
      rw [e]
      cases firstF k j b () with
      | inr q => rfl
      | inl q => exact ih (i + 1) (j + 1)
  simp only [firstOf, firstF, walkL]
  by_cases q : a.1 = k
  · rw [show (a.1 == k) = true by rw [beq_iff_eq]; exact q, if_pos q]; rfl
  · rw [show (a.1 == k) = false by rw [beq_eq_false_iff_ne]; exact q, if_neg q]
    simp only [cond_false]
    rw [shift r (0 + 1) 0]

theorem L_above {k : Int} : ∀ {l : List Ln} {lo : Int}, lnFrom lo l → k ≤ lo → L k l = 0 ∧ firstOf k l = 0
  | [], _, _, _ => ⟨rfl, rfl⟩
  | x :: l, lo, ⟨h1, h2, h3, h4⟩, hk => by
    obtain ⟨e1, e2⟩ := L_above h4 (show k ≤ x.1 by omega)
    rw [L_cons, first_cons, if_neg (by omega), if_neg (by omega), e1, e2]; exact ⟨rfl, rfl⟩
theorem L_first {k : Int} : ∀ {l : List Ln} {lo : Int}, lnFrom lo l → L k l = firstOf k l
  | [], _, _ => rfl
  | x :: l, lo, ⟨h1, h2, h3, h4⟩ => by
    rw [L_cons, first_cons]
    by_cases q : x.1 = k
    · rw [if_pos q, if_pos q, (L_above h4 (by omega)).1]; omega
    · rw [if_neg q, if_neg q, L_first h4]; omega
theorem first_nonneg {k : Int} : ∀ {l : List Ln} {lo : Int}, lnFrom lo l → 0 ≤ firstOf k l
  | [], _, _ => Int.le_refl _
  | x :: l, lo, ⟨h1, h2, h3, h4⟩ => by
    rw [first_cons]
    have := first_nonneg (k := k) h4
    split <;> omega

/-! ### Fewer of an article -/
def lessG (sku q : Int) (e : Ln) : List Ln := bif e.1 == sku then (bif decide (IntKind.i64.wrap (e.2.1 - q) > 0) then [(e.1, (IntKind.i64.wrap (e.2.1 - q), e.2.2))] else []) else bif decide (e.2.1 > 0) then [e] else []
theorem lessG_len (sku q : Int) (e : Ln) : (lessG sku q e).length ≤ 1 := by
  unfold lessG
  cases (e.1 == sku) <;> cases decide (IntKind.i64.wrap (e.2.1 - q) > 0) <;> cases decide (e.2.1 > 0) <;> simp
def lessL (sku q : Int) (l : List Ln) : List Ln := l.flatMap (lessG sku q)

theorem less_val (sku q : Int) (l : List Ln) (hl : l.length < 100000) : pledgeref22_less l sku q = some (lessL sku q l) := by
  unfold pledgeref22_less
  have := loop_walk (step := pledgeref22_less.l1) l (fun i (acc : List Ln) => ((l, (sku, (q, ((), (i : Int))))), (acc, ()))) (fun _ y acc => .inl (acc ++ lessG sku q y)) (fun acc => ((), (acc, ()))) (fun i acc => acc.length ≤ i) [] (by omega) (by simp) (fun i y acc hx hI => by
    have hi := get_lt hx
    refine ⟨?_, fun _ h => by cases h; have := lessG_len sku q y; simp only [List.length_append]; omega⟩
    unfold pledgeref22_less.l1 lessG
    simp only [dec_t (show (i : Int) < (l.length : Int) by omega), cond_true]
    rw [nthK_get hx, succ_i64 (by omega), room_ok (by simp; omega), room_ok (by simp; omega)]
    cases (y.1 == sku) with
    | true => cases decide (IntKind.i64.wrap (y.2.1 - q) > 0) <;> simp
    | false => cases decide (y.2.1 > 0) <;> simp) (fun acc _ => by
    unfold pledgeref22_less.l1
    simp only [dec_f (show ¬ (l.length : Int) < (l.length : Int) by omega), cond_false])
  rw [show (((0 : Nat) : Int)) = 0 from rfl] at this
  rw [this, walk_gather, List.nil_append]
  rfl

theorem less_ln {sku q : Int} (hq : 1 ≤ q) : ∀ {l : List Ln} {lo : Int}, lnFrom lo l → (∀ x ∈ l, x.2.1 < 9223372036854775808) → (∀ x ∈ l, x.1 = sku → q ≤ x.2.1) → lnFrom lo (lessL sku q l) ∧ (lessL sku q l).length ≤ l.length ∧ ∀ k, firstOf k (lessL sku q l) = firstOf k l - (if k = sku ∧ (∃ x ∈ l, x.1 = sku) then q else 0)
  | [], lo, _, _, _ => ⟨trivial, Nat.le_refl _, fun k => by simp [lessL, firstOf, walkL]⟩
  | x :: l, lo, ⟨h1, h2, h3, h4⟩, hb, hle => by
    obtain ⟨i1, i2, i3⟩ := less_ln hq h4 (fun y hy => hb y (List.mem_cons_of_mem _ hy)) (fun y hy => hle y (List.mem_cons_of_mem _ hy))
    have hx := hb x List.mem_cons_self
    have lowered : lnFrom lo (lessL sku q l) := by
      revert i1
      cases lessL sku q l with
      | nil => exact fun _ => trivial
      | cons y r => exact fun h => ⟨by have := h.1; omega, h.2⟩
    have e : lessL sku q (x :: l) = lessG sku q x ++ lessL sku q l := by unfold lessL; rw [List.flatMap_cons]
    rw [e]
    unfold lessG
    by_cases c : x.1 = sku
    · have hqx := hle x List.mem_cons_self c
      rw [show (x.1 == sku) = true by rw [beq_iff_eq]; exact c, wrap_i64 (by omega) (by omega)]
      have hno : ¬ ∃ y ∈ l, y.1 = sku := by
        rintro ⟨y, hy, e1⟩
        have : ∀ {l : List Ln} {lo : Int}, lnFrom lo l → ∀ y ∈ l, lo < y.1 := by
          intro l
          induction l with
          | nil => intro lo _ y hy; cases hy
          | cons z l ih =>
            intro lo h y hy
            rcases List.mem_cons.1 hy with e | hy
            · subst e; exact h.1
            · have := ih h.2.2.2 y hy; have := h.1; omega
        have := this h4 y hy; omega
      have hz : ∀ k, (if k = sku ∧ (∃ y ∈ l, y.1 = sku) then q else 0) = 0 := fun k => if_neg (fun h => hno h.2)
      simp only [cond_true]
      by_cases r : x.2.1 - q > 0
      · rw [dec_t r]
        simp only [cond_true, List.singleton_append]
        refine ⟨⟨h1, h2, by show 1 ≤ x.2.1 - q; omega, i1⟩, by simp only [List.length_cons]; omega, fun k => ?_⟩
        rw [first_cons, first_cons, i3 k, hz]
        simp only []
        by_cases hk : x.1 = k
        · rw [if_pos hk, if_pos hk, if_pos ⟨by omega, x, List.mem_cons_self, c⟩]
        · rw [if_neg hk, if_neg hk, if_neg (fun h => hk (by omega))]
      · rw [dec_f r]
        simp only [cond_false, List.nil_append]
        refine ⟨lowered, by simp only [List.length_cons]; omega, fun k => ?_⟩
        rw [first_cons, i3 k, hz]
        by_cases hk : x.1 = k
        · rw [if_pos hk, if_pos ⟨by omega, x, List.mem_cons_self, c⟩, (L_above h4 (show k ≤ x.1 by omega)).2]; omega
        · rw [if_neg hk, if_neg (fun h => hk (by omega))]
    · rw [show (x.1 == sku) = false by rw [beq_eq_false_iff_ne]; exact c, dec_t (by omega : x.2.1 > 0)]
      simp only [cond_true, cond_false, List.singleton_append]
      refine ⟨⟨h1, h2, h3, i1⟩, by simp only [List.length_cons]; omega, fun k => ?_⟩
      rw [first_cons, first_cons, i3 k]
      have hiff : (∃ y ∈ x :: l, y.1 = sku) ↔ ∃ y ∈ l, y.1 = sku :=
        ⟨fun ⟨y, hy, h⟩ => by rcases List.mem_cons.1 hy with e | hy; subst e; exact absurd h c; exact ⟨y, hy, h⟩, fun ⟨y, hy, h⟩ => ⟨y, List.mem_cons_of_mem _ hy, h⟩⟩
      simp only [hiff]
      by_cases hk : x.1 = k
      · rw [if_pos hk, if_pos hk, if_neg (fun h => c (by omega))]; omega
      · rw [if_neg hk, if_neg hk]
end Go.Proofs.Pure

/- What fillings and programs make of orders; good orders stay good. -/
namespace Go.Proofs.Pure
open Go.Proofs.D Go.Proofs.F

structure GoodO (x : Ord) : Prop where
  id : x.1 ≠ 0
  policy : ¬ x.2.1 > 1
  pos : (x.2.2.1.length : Int) ≠ 0
  lines : linesB 4 x.2.2.1 = true
  owes : lnFrom (-1) x.2.2.2.2.2.1
  few : x.2.2.2.2.2.1.length ≤ 3
  held : okFrom x.1 (-1) x.2.2.2.1
  sent : okFrom x.1 (-1) x.2.2.2.2.1
  named : ∀ k : Nat, k < 4 → T k x.2.2.2.1 + T k x.2.2.2.2.1 + L k x.2.2.2.2.2.1 < 9223372036854775808 ∧ T k x.2.2.2.1 + T k x.2.2.2.2.1 + L k x.2.2.2.2.2.1 ≤ firstOf k x.2.2.1

theorem sumOf_ok {l : List Int} (h : (sumOf l).2.1 = true) : sumOf l = (total l, (true, ())) ∧ -9223372036854775808 ≤ total l ∧ total l < 9223372036854775808 := by
  unfold sumOf at h ⊢
  by_cases q : fitsI (total l) = true
  · rw [if_pos q] at h ⊢
    unfold fitsI at q
    simp only [Bool.and_eq_true, decide_eq_true_eq] at q
    exact ⟨rfl, q⟩
  · rw [if_neg q] at h; cases h

theorem L_nonneg {k : Int} {l : List Ln} {lo : Int} (h : lnFrom lo l) : 0 ≤ L k l := by rw [L_first h]; exact first_nonneg h

theorem good_of {x : Ord} (h : FewO x) (hg : goodO x = true) : GoodO x := by
  unfold goodO at hg
  simp only [Bool.and_eq_true, Bool.not_eq_true', beq_eq_false_iff_ne, decide_eq_false_iff_not] at hg
  obtain ⟨h1, h2, h3, h4, h5, h6, h7, h8⟩ := hg
  obtain ⟨o1, o2⟩ := ln_of h.w4 h5
  refine ⟨h1, h2, h3, h4, o1, o2, ok_of h.w2 h6, ok_of h.w3 h7, fun k hk => ?_⟩
  have := (allFrom_iff.1 h8) k (by omega) (by omega)
  unfold namedR at this
  simp only [Bool.and_eq_true, Bool.not_eq_true', decide_eq_false_iff_not] at this
  obtain ⟨e1, e2, e3⟩ := sumOf_ok this.1
  rw [e1] at this
  rw [named_total, T_append] at this e3
  exact ⟨e3, by have := this.2; omega⟩

theorem of_good {x : Ord} (hg : GoodO x) : goodO x = true := by
  unfold goodO
  simp only [Bool.and_eq_true, Bool.not_eq_true', beq_eq_false_iff_ne, decide_eq_false_iff_not]
  refine ⟨hg.id, hg.policy, hg.pos, hg.lines, lines_of_ln hg.owes hg.few, takes_of_ok hg.held, takes_of_ok hg.sent, allFrom_iff.2 fun k _ hk => ?_⟩
  obtain ⟨n1, n2⟩ := hg.named k (by omega)
  have e1 := T_nonneg k hg.held; have e2 := T_nonneg k hg.sent; have e3 := L_nonneg (k := k) hg.owes
  unfold namedR
  rw [sumOf_fit (by rw [named_total, T_append]; omega) (by rw [named_total, T_append]; exact n1), named_total, T_append]
  simp only [Bool.true_and]
  rw [dec_f (by omega)]; rfl

/-! ### Filling -/
def filled (x : Ord) (t : Tk) : Ord := (x.1, (x.2.1, (x.2.2.1, (ins t x.2.2.2.1, (x.2.2.2.2.1, (lessL t.2.1 t.2.2.2.1 x.2.2.2.2.2.1, ()))))))
def fillO (x : Ord) (t : Tk) : Ord × Int × Unit :=
  bif !goodO x then (x, (12, ())) else bif !tkBase 4 4 x.1 t then (x, (1, ())) else bif decide (firstOf t.2.1 x.2.2.2.2.2.1 < t.2.2.2.1) then (x, (12, ())) else (filled x t, (0, ()))

theorem fits_fill {x : Ord} {t : Tk} (hg : GoodO x) (ht : Valid x.1 t) (ho : ¬ firstOf t.2.1 x.2.2.2.2.2.1 < t.2.2.2.1) : ∀ e ∈ x.2.2.2.1, key e = key t → e.2.2.2.1 + t.2.2.2.1 < 9223372036854775808 := by
  intro e he hk
  have hs := ht.sku
  obtain ⟨v, _⟩ := hg.held.mem e he
  have e1 := key_sku v ht hk
  have e2 := T_mem hg.held e he
  obtain ⟨n, hn⟩ : ∃ n : Nat, t.2.1 = (n : Int) := Int.eq_ofNat_of_zero_le hs.1
  have e3 := (hg.named n (by omega)).1
  have e4 := T_nonneg n hg.sent
  rw [L_first hg.owes] at e3
  rw [e1, hn] at e2
  rw [hn] at ho
  omega

theorem order_less (sku q : Int) (l : List Ln) (hl : l.length < 100000) (X : (Int × Int × Unit × Unit × Unit × Unit × Unit)) (t : Tk) (Y : (Int × Int × Unit × Unit × Unit × Unit × Unit)) (A : List Ln) (B C : List Tk) (h1 : t.2.1 = sku) (h2 : t.2.2.2.1 = q) :
    iterL order_Fill.l1 loopN (((), ((), ((), ((), ((), ((l.length : Int), 0)))))), (X, (t, (Y, ([], (l, (A, (B, (C, ()))))))))) = some (((), ((), ((), ()))), (X, (t, (Y, (lessL sku q l, (A, (B, (C, (l, ()))))))))) := by
  subst h1; subst h2
  have := loop_walk (step := order_Fill.l1) l (fun i (acc : List Ln) => (((), ((), ((), ((), ((), ((l.length : Int), (i : Int))))))), (X, (t, (Y, (acc, (l, (A, (B, (C, ()))))))))) ) (fun _ y acc => .inl (acc ++ lessG t.2.1 t.2.2.2.1 y)) (fun acc => (((), ((), ((), ()))), (X, (t, (Y, (acc, (A, (B, (C, (l, ())))))))))) (fun i acc => acc.length ≤ i) [] (by omega) (by simp) (fun i y acc hx hI => by
    have hi := get_lt hx
    refine ⟨?_, fun _ h => by cases h; have := lessG_len t.2.1 t.2.2.2.1 y; simp only [List.length_append]; omega⟩
    unfold order_Fill.l1 lessG
    simp only [dec_t (show (i : Int) < (l.length : Int) by omega), dec_t (show (0 : Int) ≤ (i : Int) by omega), Bool.and_true, cond_true]
    rw [chk_true rfl, nthK_get hx, succ_i64 (by omega), room_ok (by simp; omega), room_ok (by simp; omega)]
    cases (y.1 == t.2.1) with
    | true => cases decide (IntKind.i64.wrap (y.2.1 - t.2.2.2.1) > 0) <;> simp
    | false => cases decide (y.2.1 > 0) <;> simp) (fun acc _ => by
    unfold order_Fill.l1
    simp only [dec_f (show ¬ (l.length : Int) < (l.length : Int) by omega), cond_false])
  rw [show (((0 : Nat) : Int)) = 0 from rfl] at this
  rw [this, walk_gather, List.nil_append]
  rfl

theorem fill_val (x : Ord) (t : Tk) (h : FewO x) (hw : WfE kTake t) : order_Fill x t = some (fillO x t) := by
  have l1 := h.lines; have l2 := h.held; have l3 := h.sent; have l4 := h.owes
  have hG := orderGood_val x h
  have hO := owed_val x t.2.1 (by omega)
  have hg := good_of h
  have hff := @fits_fill x t
  unfold order_Fill fillO filled
  rw [copy_val x (by omega) (by omega) (by omega) (by omega)]
  obtain ⟨o1, o2, lines, held, sent, owes, u⟩ := x
  simp only [Option.bind_some] at *
  rw [hG]
  cases c1 : goodO (o1, o2, lines, held, sent, owes, u) with
  | false => rfl
  | true =>
    simp only [Option.bind_some, Bool.not_true, cond_false, fine_val]
    cases c2 : tkBase 4 4 o1 t with
    | false => rfl
    | true =>
      simp only [Bool.not_true, cond_false]
      rw [hO, Option.bind_some]
      cases c3 : decide (firstOf t.2.1 owes < t.2.2.2.1) with
      | true => rfl
      | false =>
        simp only [cond_false]
        have hv := (base_valid hw).1 c2
        have hgo := hg c1
        rw [order_less t.2.1 t.2.2.2.1 owes (by omega) _ t _ _ _ _ rfl rfl, Option.bind_some]
        simp only []
        rw [with_val t held (by omega) ⟨_, hv⟩ (fun y hy => ⟨_, (hgo.held.mem y hy).1⟩) (hff hgo hv (by simpa using c3)), Option.bind_some]

theorem refFill_val (x : Ord) (t : Tk) (h : FewO x) (hw : WfE kTake t) : pledgeref22_Fill x t = some (fillO x t) := by
  have l1 := h.lines; have l2 := h.held; have l3 := h.sent; have l4 := h.owes
  unfold pledgeref22_Fill fillO filled
  rw [ref22Good_val x h, refOwed_val x t.2.1 (by omega)]
  cases c1 : goodO x with
  | false => rfl
  | true =>
    simp only [Option.bind_some, Bool.not_true, cond_false]
    have hgo := good_of h c1
    cases c2 : tkBase 4 4 x.1 t with
    | false =>
      unfold tkBase at c2
      revert c2
      have e1 : (t.1 != x.1) = !(t.1 == x.1) := rfl
      cases (t.1 != x.1) <;> cases decide (t.2.1 ≥ 4) <;> cases decide (t.2.2.1 ≥ 4) <;> cases decide (t.2.2.2.1 < 1) <;> intro c2 <;> first | rfl | cases c2
    | true =>
      have hv := (base_valid hw).1 c2
      have hs := hv.sku; have hwr := hv.ware; have hq := hv.qty
      rw [show (t.1 != x.1) = false by simp [bne, hv.id], dec_f (by omega : ¬ t.2.1 ≥ 4), dec_f (by omega : ¬ t.2.2.1 ≥ 4), dec_f (by omega : ¬ t.2.2.2.1 < 1)]
      simp only [Bool.not_true, cond_false]
      cases c3 : decide (firstOf t.2.1 x.2.2.2.2.2.1 < t.2.2.2.1) with
      | true => rfl
      | false =>
        simp only [cond_false]
        rw [less_val _ _ _ (by omega), Option.bind_some, With_val t x.2.2.2.1 (by omega) ⟨_, hv⟩ hgo.held (fits_fill hgo hv (by simpa using c3)), Option.bind_some]

theorem wrap_range (n : Int) : -9223372036854775808 ≤ IntKind.i64.wrap n ∧ IntKind.i64.wrap n < 9223372036854775808 := by
  unfold IntKind.wrap
  simp only [IntKind.bits, IntKind.signed, Bool.true_and, decide_eq_true_eq, show (2 : Int) ^ 64 = 18446744073709551616 by decide, show (2 : Int) ^ (64 - 1) = 9223372036854775808 by decide]
  split <;> omega

theorem less_wf {sku q : Int} {l : List Ln} (h : ∀ x ∈ l, WfE kLine x) : ∀ x ∈ lessL sku q l, WfE kLine x := by
  intro x hx
  obtain ⟨e, he, hx⟩ := List.mem_flatMap.1 hx
  have hw := h e he
  unfold lessG at hx
  revert hx
  cases (e.1 == sku) with
  | true =>
    cases decide (IntKind.i64.wrap (e.2.1 - q) > 0) with
    | true => intro hx; rcases List.mem_singleton.1 hx with rfl; have := wrap_range (e.2.1 - q); exact ⟨hw.1, wf_mk_i64 this.1 this.2, trivial⟩
    | false => intro hx; cases hx
  | false =>
    cases decide (e.2.1 > 0) with
    | true => intro hx; rcases List.mem_singleton.1 hx with rfl; exact hw
    | false => intro hx; cases hx

theorem first_zero {k : Int} : ∀ {l : List Ln}, (¬ ∃ x ∈ l, x.1 = k) → firstOf k l = 0
  | [], _ => rfl
  | x :: l, h => by
    rw [first_cons, if_neg (fun e => h ⟨x, List.mem_cons_self, e⟩)]
    exact first_zero fun ⟨y, hy, e⟩ => h ⟨y, List.mem_cons_of_mem _ hy, e⟩
theorem first_mem {k : Int} : ∀ {l : List Ln} {lo : Int}, lnFrom lo l → ∀ x ∈ l, x.1 = k → firstOf k l = x.2.1
  | [], _, _, x, hx, _ => by cases hx
  | y :: l, lo, ⟨h1, h2, h3, h4⟩, x, hx, e => by
    rw [first_cons]
    rcases List.mem_cons.1 hx with q | hx
    · subst q; rw [if_pos e]
    · have hm : ∀ {l : List Ln} {lo : Int}, lnFrom lo l → ∀ y ∈ l, lo < y.1 := by
        intro l
        induction l with
        | nil => intro lo _ y hy; cases hy
        | cons z l ih =>
          intro lo h y hy
          rcases List.mem_cons.1 hy with e | hy
          · subst e; exact h.1
          · have := ih h.2.2.2 y hy; have := h.1; omega
      have := hm h4 x hx
      rw [if_neg (by omega)]
      exact first_mem h4 x hx e

/-- The filled order: good, with the same parts of each article. -/
theorem filled_good {x : Ord} {t : Tk} (h : FewO x) (hg : GoodO x) (hv : Valid x.1 t) (ho : ¬ firstOf t.2.1 x.2.2.2.2.2.1 < t.2.2.2.1) :
    GoodO (filled x t) ∧ (∀ k, T k (ins t x.2.2.2.1) = T k x.2.2.2.1 + (if t.2.1 = k then t.2.2.2.1 else 0)) ∧ ∀ k, firstOf k (lessL t.2.1 t.2.2.2.1 x.2.2.2.2.2.1) = firstOf k x.2.2.2.2.2.1 - (if t.2.1 = k then t.2.2.2.1 else 0) := by
  have hq := hv.qty
  obtain ⟨e1, e2, e3⟩ := less_ln (sku := t.2.1) (q := t.2.2.2.1) hq.1 hg.owes (fun y hy => (wf_i64 (h.w4 y hy).2.1).2) (fun y hy e => by have := first_mem hg.owes y hy e; omega)
  have hex : ∃ y ∈ x.2.2.2.2.2.1, y.1 = t.2.1 := by
    refine Classical.byContradiction fun hn => ?_
    have := first_zero hn
    omega
  have hf : ∀ k, firstOf k (lessL t.2.1 t.2.2.2.1 x.2.2.2.2.2.1) = firstOf k x.2.2.2.2.2.1 - (if t.2.1 = k then t.2.2.2.1 else 0) := by
    intro k
    rw [e3 k]
    by_cases hk : t.2.1 = k
    · rw [if_pos hk, if_pos ⟨hk.symm, hex⟩]
    · rw [if_neg hk, if_neg (fun q => hk q.1.symm)]
  have hT := fun k => ins_T hv k hg.held
  have hs := hv.sku; have hwr := hv.ware
  refine ⟨⟨hg.id, hg.policy, hg.pos, hg.lines, e1, by have := hg.few; show (lessL _ _ _).length ≤ 3; omega, ins_ok hv hg.held (by unfold key; omega) (fits_fill hg hv ho), hg.sent, fun k hk => ?_⟩, hT, hf⟩
  obtain ⟨n1, n2⟩ := hg.named k hk
  show T k (ins t x.2.2.2.1) + T k x.2.2.2.2.1 + L k (lessL t.2.1 t.2.2.2.1 x.2.2.2.2.2.1) < _ ∧ T k (ins t x.2.2.2.1) + T k x.2.2.2.2.1 + L k (lessL t.2.1 t.2.2.2.1 x.2.2.2.2.2.1) ≤ _
  rw [hT k, L_first e1, hf k]
  rw [L_first hg.owes] at n1 n2
  show _ ∧ _ ≤ firstOf k x.2.2.1
  split <;> omega

theorem filled_few {x : Ord} {t : Tk} (h : FewO x) (hw : WfE kTake t) (hh : x.2.2.2.1.length < 100) (hg : GoodO x) (hv : Valid x.1 t) (ho : ¬ firstOf t.2.1 x.2.2.2.2.2.1 < t.2.2.2.1) : FewO (filled x t) := by
  have i1 := ins_len t x.2.2.2.1
  have l3 := h.sent
  have l4 := (filled_good h hg hv ho).1.few
  refine ⟨⟨h.wf.1, h.wf.2.1, h.wf.2.2.1, ⟨by show (ins t _).length ≤ 9223372036854775807; omega, ins_wf hw hv hg.held (fits_fill hg hv ho) h.w2⟩, h.wf.2.2.2.2.1, ⟨by show (lessL _ _ _).length ≤ 9223372036854775807; have : (lessL t.2.1 t.2.2.2.1 x.2.2.2.2.2.1).length ≤ 3 := l4; omega, less_wf h.w4⟩, trivial⟩, h.lines, by show (ins t _).length ≤ 100; omega, h.sent, by show (lessL _ _ _).length ≤ 100; have : (lessL t.2.1 t.2.2.2.1 x.2.2.2.2.2.1).length ≤ 3 := l4; omega⟩
end Go.Proofs.Pure

/- What programs make of orders. -/
namespace Go.Proofs.Pure
open Go.Proofs.D Go.Proofs.F

def shipL (sent held : List Tk) : List Tk := held.foldl (fun s t => ins t s) sent
def cancelled (x : Ord) : Ord := (x.1, (x.2.1, (x.2.2.1, ([], (x.2.2.2.2.1, ([], ()))))))
def shipped (x : Ord) : Ord := (x.1, (x.2.1, (x.2.2.1, ([], (shipL x.2.2.2.2.1 x.2.2.2.1, (x.2.2.2.2.2.1, ()))))))
def returned (x : Ord) : Ord := (x.1, (x.2.1, (x.2.2.1, (x.2.2.2.1, ([], (x.2.2.2.2.2.1, ()))))))
def applyO (x : Ord) (p : Prg) : Ord × Int × Unit :=
  bif !goodO x then (x, (12, ())) else bif !goodP 4 4 p then (x, (1, ())) else bif p.2.1 != x.1 then (x, (1, ()))
  else bif p.1 == 2 then (bif sameT p.2.2.2.2.1 x.2.2.2.1 && sameL p.2.2.2.2.2.1 x.2.2.2.2.2.1 then (cancelled x, (0, ())) else (x, (12, ())))
  else bif p.1 == 3 then (bif sameT p.2.2.2.2.1 x.2.2.2.1 then (shipped x, (0, ())) else (x, (12, ())))
  else bif p.1 == 4 then (bif sameT p.2.2.2.2.1 x.2.2.2.2.1 then (returned x, (0, ())) else (x, (12, ())))
  else (x, (1, ()))

/-- What is known while it is shipped. -/
structure Along (id : Int) (sent held : List Tk) (i : Nat) (acc : List Tk) : Prop where
  ok : okFrom id (-1) acc
  len : acc.length ≤ sent.length + i
  wf : ∀ x ∈ acc, WfE kTake x
  T : ∀ k : Int, Go.Proofs.Pure.T k acc + Go.Proofs.Pure.T k (held.drop i) = Go.Proofs.Pure.T k sent + Go.Proofs.Pure.T k held

theorem okFrom.drop {id lo : Int} : ∀ {l : List Tk} (i : Nat), okFrom id lo l → ∃ lo', okFrom id lo' (l.drop i)
  | l, 0, h => ⟨lo, h⟩
  | [], i + 1, h => ⟨lo, h⟩
  | x :: l, i + 1, h => okFrom.drop i h.2.2

theorem along_fits {x : Ord} (hg : GoodO x) {i : Nat} {t : Tk} {acc : List Tk} (hx : x.2.2.2.1[i]? = some t) (hA : Along x.1 x.2.2.2.2.1 x.2.2.2.1 i acc) : Valid x.1 t ∧ ∀ e ∈ acc, key e = key t → e.2.2.2.1 + t.2.2.2.1 < 9223372036854775808 := by
  obtain ⟨v, _⟩ := hg.held.mem t (get_mem hx)
  refine ⟨v, fun e he hk => ?_⟩
  obtain ⟨v2, _⟩ := hA.ok.mem e he
  have e1 := key_sku v2 v hk
  have e2 := T_mem hA.ok e he
  have hlt := get_lt hx
  obtain ⟨lo', hd⟩ := hg.held.drop i
  have hmem : t ∈ x.2.2.2.1.drop i := by
    have : (x.2.2.2.1.drop i)[0]? = some t := by rw [List.getElem?_drop]; simpa using hx
    exact get_mem this
  have e3 := T_mem hd t hmem
  have hs := v.sku
  obtain ⟨n, hn⟩ : ∃ n : Nat, t.2.1 = (n : Int) := Int.eq_ofNat_of_zero_le hs.1
  have e4 := (hg.named n (by omega)).1
  have e5 := hA.T n
  have e6 := L_nonneg (k := n) hg.owes
  rw [e1, hn] at e2
  rw [hn] at e3
  omega

theorem along_next {x : Ord} (hg : GoodO x) (h : FewO x) {i : Nat} {t : Tk} {acc : List Tk} (hx : x.2.2.2.1[i]? = some t) (hA : Along x.1 x.2.2.2.2.1 x.2.2.2.1 i acc) : Along x.1 x.2.2.2.2.1 x.2.2.2.1 (i + 1) (ins t acc) := by
  obtain ⟨v, hf⟩ := along_fits hg hx hA
  have hs := v.sku; have hw := v.ware
  have hlt := get_lt hx
  have hd : x.2.2.2.1.drop i = t :: x.2.2.2.1.drop (i + 1) := by
    rw [List.drop_eq_getElem_cons hlt]
    have e := List.getElem?_eq_getElem hlt
    rw [hx] at e; rw [Option.some.inj e]
  refine ⟨ins_ok v hA.ok (by unfold key; omega) hf, by have := ins_len t acc; have := hA.len; omega, ins_wf (h.w2 t (get_mem hx)) v hA.ok hf hA.wf, fun k => ?_⟩
  have := hA.T k
  rw [hd, T_cons] at this
  rw [ins_T v k hA.ok]
  omega

theorem along_zero {x : Ord} (hg : GoodO x) (h : FewO x) : Along x.1 x.2.2.2.2.1 x.2.2.2.1 0 x.2.2.2.2.1 := ⟨hg.sent, Nat.le_refl _, h.w3, fun k => rfl⟩

theorem along_end {x : Ord} (hg : GoodO x) (h : FewO x) : Along x.1 x.2.2.2.2.1 x.2.2.2.1 x.2.2.2.1.length (shipL x.2.2.2.2.1 x.2.2.2.1) := by
  have go : ∀ (k i : Nat) (acc : List Tk), i + k = x.2.2.2.1.length → Along x.1 x.2.2.2.2.1 x.2.2.2.1 i acc → Along x.1 x.2.2.2.2.1 x.2.2.2.1 x.2.2.2.1.length ((x.2.2.2.1.drop i).foldl (fun s t => ins t s) acc) := by
    intro k
    induction k with
    | zero => intro i acc hi hA; rw [List.drop_eq_nil_iff.2 (by omega)]; have e : i = x.2.2.2.1.length := by omega
              subst e; exact hA
    | succ k ih =>
      intro i acc hi hA
      have hlt : i < x.2.2.2.1.length := by omega
      rw [List.drop_eq_getElem_cons hlt, List.foldl_cons]
      exact ih (i + 1) _ (by omega) (along_next hg h (List.getElem?_eq_getElem hlt) hA)
  have := go x.2.2.2.1.length 0 x.2.2.2.2.1 (by omega) (along_zero hg h)
  simpa [shipL] using this

theorem apply_loop (x : Ord) (h : FewO x) (hg : GoodO x) (Y : (Int × Int × Unit × Unit × Unit × Unit × Unit)) :
    iterL order_Apply.l1 loopN (((), ((), ((), ((x.2.2.2.1.length : Int), 0)))), ((x.1, (x.2.1, ((), ((), (x.2.2.2.2.1, ((), ())))))), (Y, (x.2.2.2.1, (x.2.2.1, (x.2.2.2.2.2.1, ())))))) =
      some (((), ()), ((x.1, (x.2.1, ((), ((), (shipL x.2.2.2.2.1 x.2.2.2.1, ((), ())))))), (Y, (x.2.2.1, (x.2.2.2.1, (x.2.2.2.2.2.1, ())))))) := by
  have l2 := h.held; have l3 := h.sent
  have := loop_walk (step := order_Apply.l1) x.2.2.2.1 (fun i (acc : List Tk) => (((), ((), ((), ((x.2.2.2.1.length : Int), (i : Int))))), ((x.1, (x.2.1, ((), ((), (acc, ((), ())))))), (Y, (x.2.2.2.1, (x.2.2.1, (x.2.2.2.2.2.1, ()))))))) (fun _ y acc => .inl (ins y acc)) (fun acc => (((), ()), ((x.1, (x.2.1, ((), ((), (acc, ((), ())))))), (Y, (x.2.2.1, (x.2.2.2.1, (x.2.2.2.2.2.1, ()))))))) (fun i acc => Along x.1 x.2.2.2.2.1 x.2.2.2.1 i acc) x.2.2.2.2.1 (by omega) (along_zero hg h) (fun i y acc hx hA => by
    have hi := get_lt hx
    obtain ⟨v, hf⟩ := along_fits hg hx hA
    refine ⟨?_, fun _ q => by cases q; exact along_next hg h hx hA⟩
    unfold order_Apply.l1
    simp only [dec_t (show (i : Int) < (x.2.2.2.1.length : Int) by omega), dec_t (show (0 : Int) ≤ (i : Int) by omega), Bool.and_true, cond_true]
    rw [chk_true rfl, nthK_get hx, succ_i64 (by omega), with_val y acc (by have := hA.len; omega) ⟨_, v⟩ (fun z hz => ⟨_, (hA.ok.mem z hz).1⟩) hf]
    rfl) (fun acc _ => by
    unfold order_Apply.l1
    simp only [dec_f (show ¬ (x.2.2.2.1.length : Int) < (x.2.2.2.1.length : Int) by omega), cond_false])
  rw [show (((0 : Nat) : Int)) = 0 from rfl] at this
  rw [this, walk_fold]
  rfl

theorem refApply_loop (x : Ord) (h : FewO x) (hg : GoodO x) (Y : (Int × Int × Unit × Unit × Unit × Unit × Unit)) :
    iterL pledgeref22_Apply.l1 loopN (((), ((), ((), 0))), (x, (Y, (x, ())))) = some (((), ()), (Y, ((x.1, (x.2.1, (x.2.2.1, (x.2.2.2.1, (shipL x.2.2.2.2.1 x.2.2.2.1, x.2.2.2.2.2))))), ()))) := by
  have l2 := h.held; have l3 := h.sent
  have := loop_walk (step := pledgeref22_Apply.l1) x.2.2.2.1 (fun i (acc : List Tk) => (((), ((), ((), (i : Int)))), (x, (Y, ((x.1, (x.2.1, (x.2.2.1, (x.2.2.2.1, (acc, x.2.2.2.2.2))))), ()))))) (fun _ y acc => .inl (ins y acc)) (fun acc => (((), ()), (Y, ((x.1, (x.2.1, (x.2.2.1, (x.2.2.2.1, (acc, x.2.2.2.2.2))))), ())))) (fun i acc => Along x.1 x.2.2.2.2.1 x.2.2.2.1 i acc) x.2.2.2.2.1 (by omega) (along_zero hg h) (fun i y acc hx hA => by
    have hi := get_lt hx
    obtain ⟨v, hf⟩ := along_fits hg hx hA
    refine ⟨?_, fun _ q => by cases q; exact along_next hg h hx hA⟩
    unfold pledgeref22_Apply.l1
    simp only [dec_t (show (i : Int) < (x.2.2.2.1.length : Int) by omega), cond_true]
    rw [nthK_get hx, succ_i64 (by omega), With_val y acc (by have := hA.len; omega) ⟨_, v⟩ hA.ok hf]
    rfl) (fun acc _ => by
    unfold pledgeref22_Apply.l1
    simp only [dec_f (show ¬ (x.2.2.2.1.length : Int) < (x.2.2.2.1.length : Int) by omega), cond_false])
  rw [show (((0 : Nat) : Int)) = 0 from rfl] at this
  refine Eq.trans this ?_
  rw [walk_fold]
  rfl

theorem refApply_val (x : Ord) (p : Prg) (h : FewO x) (hp : Few p) : pledgeref22_Apply x p = some (applyO x p) := by
  have l1 := hp.lines; have l2 := hp.takes; have l3 := hp.owes
  unfold pledgeref22_Apply applyO cancelled shipped returned
  rw [ref22Good_val x h, refGoodP_val 4 4 p hp, ref_equalT_val _ _ (by omega), ref_equalT_val _ _ (by omega), ref_equal_val _ _ (by omega)]
  cases c1 : goodO x with
  | false => rfl
  | true =>
  have hg := good_of h c1
  cases goodP 4 4 p with
  | false => rfl
  | true =>
  cases (p.2.1 != x.1) with
  | true => rfl
  | false =>
  cases (p.1 == 2) with
  | true =>
    cases sameT p.2.2.2.2.1 x.2.2.2.1 <;> cases sameL p.2.2.2.2.2.1 x.2.2.2.2.2.1 <;> rfl
  | false =>
  cases (p.1 == 3) with
  | true =>
    cases sameT p.2.2.2.2.1 x.2.2.2.1 with
    | false => rfl
    | true =>
      simp only [Option.bind_some, Bool.not_true, cond_false, cond_true]
      rw [refApply_loop x h hg, Option.bind_some]
  | false =>
  cases (p.1 == 4) with
  | true => cases sameT p.2.2.2.2.1 x.2.2.2.2.1 <;> rfl
  | false => rfl

theorem apply_val (x : Ord) (p : Prg) (h : FewO x) (hp : Few p) : order_Apply x p = some (applyO x p) := by
  have l1 := hp.lines; have l2 := hp.takes; have l3 := hp.owes
  have m1 := h.lines; have m2 := h.held; have m3 := h.sent; have m4 := h.owes
  have hG := orderGood_val x h
  have hg := good_of h
  have hL := apply_loop x h
  unfold order_Apply applyO cancelled shipped returned
  rw [copy_val x (by omega) (by omega) (by omega) (by omega), progGood_val 4 4 p hp]
  obtain ⟨o1, o2, lines, held, sent, owes, u⟩ := x
  simp only [Option.bind_some] at hG hg hL ⊢
  rw [hG]
  cases c1 : goodO (o1, o2, lines, held, sent, owes, u) with
  | false => rfl
  | true =>
  simp only [Option.bind_some, Bool.not_true, cond_false]
  cases goodP 4 4 p with
  | false => rfl
  | true =>
  simp only [Bool.not_true, cond_false]
  cases (p.2.1 != o1) with
  | true => rfl
  | false =>
  simp only [cond_false]
  have eS : slices_Equal_api_Take_api_Take p.2.2.2.2.1 sent = some (sameT p.2.2.2.2.1 sent) := equalT_val _ _ (by omega)
  have eH : slices_Equal_api_Take_api_Take p.2.2.2.2.1 held = some (sameT p.2.2.2.2.1 held) := equalT_val _ _ (by omega)
  have eL : slices_Equal_api_Line_api_Line p.2.2.2.2.2.1 owes = some (sameL p.2.2.2.2.2.1 owes) := equal_val _ _ (by omega)
  by_cases k1 : p.1 < 2
  · rw [dec_t k1, show (p.1 == 2) = false by rw [beq_eq_false_iff_ne]; omega, show (p.1 == 3) = false by rw [beq_eq_false_iff_ne]; omega, show (p.1 == 4) = false by rw [beq_eq_false_iff_ne]; omega]; rfl
  by_cases k2 : p.1 > 4
  · rw [dec_f k1, dec_t k2, show (p.1 == 2) = false by rw [beq_eq_false_iff_ne]; omega, show (p.1 == 3) = false by rw [beq_eq_false_iff_ne]; omega, show (p.1 == 4) = false by rw [beq_eq_false_iff_ne]; omega]; rfl
  rw [dec_f k1, dec_f k2]
  by_cases k3 : p.1 = 2
  · have e2 : (p.1 == 2) = true := by rw [beq_iff_eq]; exact k3
    have e4 : (p.1 == 4) = false := by rw [beq_eq_false_iff_ne]; omega
    simp only [e2, e4, cond_false, cond_true, Option.bind_some]
    rw [eH]
    cases sameT p.2.2.2.2.1 held with
    | false => rfl
    | true =>
      simp only [Option.bind_some, Bool.not_true, cond_false, Bool.true_and]
      rw [eL]
      cases sameL p.2.2.2.2.2.1 owes with
      | false => rfl
      | true => simp only [Option.bind_some, Bool.not_true, cond_false, e2, cond_true]
  by_cases k4 : p.1 = 3
  · have e2 : (p.1 == 2) = false := by rw [beq_eq_false_iff_ne]; omega
    have e3 : (p.1 == 3) = true := by rw [beq_iff_eq]; exact k4
    have e4 : (p.1 == 4) = false := by rw [beq_eq_false_iff_ne]; omega
    simp only [e2, e3, e4, cond_false, cond_true, Option.bind_some]
    rw [eH]
    cases sameT p.2.2.2.2.1 held with
    | false => rfl
    | true =>
      simp only [Option.bind_some, Bool.not_true, cond_false, e2, e3, cond_true]
      rw [hL (hg c1), Option.bind_some]
  · have e2 : (p.1 == 2) = false := by rw [beq_eq_false_iff_ne]; omega
    have e3 : (p.1 == 3) = false := by rw [beq_eq_false_iff_ne]; omega
    have e4 : (p.1 == 4) = true := by rw [beq_iff_eq]; omega
    simp only [e2, e3, e4, cond_false, cond_true, Option.bind_some]
    rw [eS]
    cases sameT p.2.2.2.2.1 sent with
    | false => rfl
    | true => simp only [Option.bind_some, Bool.not_true, cond_false, e2, e3, e4, cond_true]

/-! ### Good orders stay good -/
theorem cancelled_good {x : Ord} (hg : GoodO x) : GoodO (cancelled x) :=
  ⟨hg.id, hg.policy, hg.pos, hg.lines, trivial, by show (0 : Nat) ≤ 3; omega, trivial, hg.sent, fun k hk => by
    obtain ⟨n1, n2⟩ := hg.named k hk
    have e1 := T_nonneg k hg.held; have e3 := L_nonneg (k := k) hg.owes
    show T k [] + T k x.2.2.2.2.1 + L k [] < _ ∧ T k [] + T k x.2.2.2.2.1 + L k [] ≤ firstOf k x.2.2.1
    rw [T_nil, show L k [] = 0 from rfl]
    omega⟩
theorem shipped_good {x : Ord} (h : FewO x) (hg : GoodO x) : GoodO (shipped x) ∧ ∀ k, T k (shipL x.2.2.2.2.1 x.2.2.2.1) = T k x.2.2.2.2.1 + T k x.2.2.2.1 := by
  have hA := along_end hg h
  have hT : ∀ k, T k (shipL x.2.2.2.2.1 x.2.2.2.1) = T k x.2.2.2.2.1 + T k x.2.2.2.1 := fun k => by
    have := hA.T k
    rw [List.drop_length, T_nil] at this; omega
  refine ⟨⟨hg.id, hg.policy, hg.pos, hg.lines, hg.owes, hg.few, trivial, hA.ok, fun k hk => ?_⟩, hT⟩
  obtain ⟨n1, n2⟩ := hg.named k hk
  show T k [] + T k (shipL x.2.2.2.2.1 x.2.2.2.1) + L k x.2.2.2.2.2.1 < _ ∧ T k [] + T k (shipL x.2.2.2.2.1 x.2.2.2.1) + L k x.2.2.2.2.2.1 ≤ firstOf k x.2.2.1
  rw [T_nil, hT k]
  omega
theorem returned_good {x : Ord} (hg : GoodO x) : GoodO (returned x) :=
  ⟨hg.id, hg.policy, hg.pos, hg.lines, hg.owes, hg.few, hg.held, trivial, fun k hk => by
    obtain ⟨n1, n2⟩ := hg.named k hk
    have e2 := T_nonneg k hg.sent
    show T k x.2.2.2.1 + T k [] + L k x.2.2.2.2.2.1 < _ ∧ T k x.2.2.2.1 + T k [] + L k x.2.2.2.2.2.1 ≤ firstOf k x.2.2.1
    rw [T_nil]
    omega⟩

theorem wf_nilL {e : K} : WfE (.slice e) ([] : List (El e)) := ⟨Nat.zero_le _, fun x hx => by cases hx⟩
theorem cancelled_few {x : Ord} (h : FewO x) : FewO (cancelled x) := ⟨⟨h.wf.1, h.wf.2.1, h.wf.2.2.1, wf_nilL, h.wf.2.2.2.2.1, wf_nilL, trivial⟩, h.lines, Nat.zero_le _, h.sent, Nat.zero_le _⟩
theorem returned_few {x : Ord} (h : FewO x) : FewO (returned x) := ⟨⟨h.wf.1, h.wf.2.1, h.wf.2.2.1, h.wf.2.2.2.1, wf_nilL, h.wf.2.2.2.2.2.1, trivial⟩, h.lines, h.held, Nat.zero_le _, h.owes⟩
theorem shipped_few {x : Ord} (h : FewO x) (hg : GoodO x) (hl : x.2.2.2.2.1.length + x.2.2.2.1.length ≤ 100) : FewO (shipped x) := by
  have hA := along_end hg h
  have := hA.len
  exact ⟨⟨h.wf.1, h.wf.2.1, h.wf.2.2.1, wf_nilL, ⟨by show (shipL _ _).length ≤ 9223372036854775807; omega, hA.wf⟩, h.wf.2.2.2.2.2.1, trivial⟩, h.lines, Nat.zero_le _, by show (shipL _ _).length ≤ 100; omega, h.owes⟩

/-- What comes of it: the order as it was, or one of three. -/
theorem apply_cases (x : Ord) (p : Prg) : (applyO x p).1 = x ∧ (applyO x p).2.1 ≠ 0 ∨ (goodO x = true ∧ goodP 4 4 p = true ∧ p.2.1 = x.1 ∧ ((p.1 = 2 ∧ applyO x p = (cancelled x, (0, ()))) ∨ (p.1 = 3 ∧ applyO x p = (shipped x, (0, ()))) ∨ (p.1 = 4 ∧ applyO x p = (returned x, (0, ()))))) := by
  unfold applyO
  cases c1 : goodO x with
  | false => exact .inl ⟨rfl, by show (12 : Int) ≠ 0; decide⟩
  | true =>
  cases c2 : goodP 4 4 p with
  | false => exact .inl ⟨rfl, by show (1 : Int) ≠ 0; decide⟩
  | true =>
  cases c3 : (p.2.1 != x.1) with
  | true => exact .inl ⟨rfl, by show (1 : Int) ≠ 0; decide⟩
  | false =>
  have e3 : p.2.1 = x.1 := by simpa using c3
  simp only [Bool.not_true, cond_false]
  by_cases k2 : p.1 = 2
  · rw [show (p.1 == 2) = true by rw [beq_iff_eq]; exact k2]
    cases (sameT p.2.2.2.2.1 x.2.2.2.1 && sameL p.2.2.2.2.2.1 x.2.2.2.2.2.1) with
    | false => exact .inl ⟨rfl, by show (12 : Int) ≠ 0; decide⟩
    | true => exact .inr ⟨trivial, trivial, e3, .inl ⟨k2, rfl⟩⟩
  rw [show (p.1 == 2) = false by rw [beq_eq_false_iff_ne]; exact k2]
  by_cases k3 : p.1 = 3
  · rw [show (p.1 == 3) = true by rw [beq_iff_eq]; exact k3]
    cases sameT p.2.2.2.2.1 x.2.2.2.1 with
    | false => exact .inl ⟨rfl, by show (12 : Int) ≠ 0; decide⟩
    | true => exact .inr ⟨trivial, trivial, e3, .inr (.inl ⟨k3, rfl⟩)⟩
  rw [show (p.1 == 3) = false by rw [beq_eq_false_iff_ne]; exact k3]
  by_cases k4 : p.1 = 4
  · rw [show (p.1 == 4) = true by rw [beq_iff_eq]; exact k4]
    cases sameT p.2.2.2.2.1 x.2.2.2.2.1 with
    | false => exact .inl ⟨rfl, by show (12 : Int) ≠ 0; decide⟩
    | true => exact .inr ⟨trivial, trivial, e3, .inr (.inr ⟨k4, rfl⟩)⟩
  rw [show (p.1 == 4) = false by rw [beq_eq_false_iff_ne]; exact k4]
  exact .inl ⟨rfl, by show (1 : Int) ≠ 0; decide⟩

theorem fill_cases (x : Ord) (t : Tk) : (fillO x t).1 = x ∧ (fillO x t).2.1 ≠ 0 ∨ (goodO x = true ∧ tkBase 4 4 x.1 t = true ∧ ¬ firstOf t.2.1 x.2.2.2.2.2.1 < t.2.2.2.1 ∧ fillO x t = (filled x t, (0, ()))) := by
  unfold fillO
  cases c1 : goodO x with
  | false => exact .inl ⟨rfl, by show (12 : Int) ≠ 0; decide⟩
  | true =>
  cases c2 : tkBase 4 4 x.1 t with
  | false => exact .inl ⟨rfl, by show (1 : Int) ≠ 0; decide⟩
  | true =>
  cases c3 : decide (firstOf t.2.1 x.2.2.2.2.2.1 < t.2.2.2.1) with
  | true => exact .inl ⟨rfl, by show (12 : Int) ≠ 0; decide⟩
  | false => exact .inr ⟨rfl, rfl, by simpa using c3, rfl⟩
end Go.Proofs.Pure

/- The law OrderPlaces. -/
namespace Go.Proofs.Pure
open Go.Proofs.D Go.Proofs.F

theorem few13_val (p : Prg) (h : WfE kProgram p) : pledgelaw13_Few p = some 0 ∨ (pledgelaw13_Few p = some 1 ∧ Few p ∧ p.2.2.2.1.length ≤ 20 ∧ p.2.2.2.2.1.length ≤ 30 ∧ p.2.2.2.2.2.1.length ≤ 20) := by
  unfold pledgelaw13_Few pledgelaw13_isFew
  by_cases h1 : (p.2.2.2.1.length : Int) ≤ 20
  · by_cases h2 : (p.2.2.2.2.1.length : Int) ≤ 30
    · by_cases h3 : (p.2.2.2.2.2.1.length : Int) ≤ 20
      · rw [dec_t h1, dec_t h2, dec_t h3]
        exact .inr ⟨rfl, ⟨h, by omega, by omega, by omega⟩, by omega, by omega, by omega⟩
      · rw [dec_t h1, dec_t h2, dec_f h3]; exact .inl rfl
    · rw [dec_t h1, dec_f h2]; exact .inl rfl
  · rw [dec_f h1]; exact .inl rfl

def ord0 : Ord := (0, (0, ([], ([], ([], ([], ()))))))
def placed (p : Prg) : Ord := (p.2.1, (p.2.2.1, (p.2.2.2.1, (p.2.2.2.2.1, ([], (p.2.2.2.2.2.1, ()))))))
def placeB (p : Prg) : Bool := (p.1 == 1) && goodP 4 4 p

theorem place_val (p : Prg) (h : Few p) : order_Place p = some (bif placeB p then (placed p, (0, ())) else (ord0, (1, ()))) := by
  have l1 := h.lines; have l2 := h.takes; have l3 := h.owes
  unfold order_Place placeB slices_Clone_api_Line_api_Line slices_Clone_api_Take_api_Take
  rw [progGood_val 4 4 p h, room_ok (by omega), room_ok (by omega), room_ok (by omega), Option.bind_some]
  cases c : (p.1 == 1) with
  | false => rw [show (p.1 != 1) = true by simp [bne, c]]; rfl
  | true => rw [show (p.1 != 1) = false by simp [bne, c]]; cases goodP 4 4 p <;> rfl
theorem ref22Place_val (p : Prg) (h : Few p) : pledgeref22_Place p = some (bif placeB p then (placed p, (0, ())) else (ord0, (1, ()))) := by
  unfold pledgeref22_Place placeB
  rw [refGoodP_val 4 4 p h, Option.bind_some]
  cases c : (p.1 == 1) with
  | false => rw [show (p.1 != 1) = true by simp [bne, c]]; rfl
  | true => rw [show (p.1 != 1) = false by simp [bne, c]]; cases goodP 4 4 p <;> rfl

theorem want_at {s : Int} {l : List Ln} (h : linesB s l = true) (hs : s ≤ 4) (hw : ∀ x ∈ l, WfE kLine x) : ∀ x ∈ l, (wantOf l).getD x.1.toNat 0 = x.2.1 := by
  have hlt := linesB_lt h
  have hb : ∀ x ∈ l, 0 ≤ x.1 ∧ x.1 < 4 := fun x hx => ⟨(wf_u8 (hw x hx).1).1, by have := (hlt x hx).1; omega⟩
  intro x hx
  rcases linesB_shape h with e | ⟨a, e⟩ | ⟨a, b, e, h1⟩ | ⟨a, b, c, e, h1, h2⟩ <;> subst e
  · cases hx
  · have ha := hb a (by simp)
    simp only [wantOf, List.foldl_cons, List.foldl_nil]
    rcases List.mem_singleton.1 hx with rfl
    rw [set_at _ _ _ _ (by simp) (by omega), if_pos rfl]
  · have ha := hb a (by simp)
    have hb' := hb b (by simp)
    simp only [wantOf, List.foldl_cons, List.foldl_nil]
    rw [set_at _ _ _ _ (by simp) (by omega), set_at _ _ _ _ (by simp) (by omega)]
    simp only [List.mem_cons, List.not_mem_nil, or_false] at hx
    rcases hx with rfl | rfl
    · rw [if_neg (by omega), if_pos rfl]
    · rw [if_pos rfl]
  · have ha := hb a (by simp)
    have hb' := hb b (by simp)
    have hc := hb c (by simp)
    simp only [wantOf, List.foldl_cons, List.foldl_nil]
    rw [set_at _ _ _ _ (by simp) (by omega), set_at _ _ _ _ (by simp) (by omega), set_at _ _ _ _ (by simp) (by omega)]
    simp only [List.mem_cons, List.not_mem_nil, or_false] at hx
    rcases hx with rfl | rfl | rfl
    · rw [if_neg (by omega), if_neg (by omega), if_pos rfl]
    · rw [if_neg (by omega), if_pos rfl]
    · rw [if_pos rfl]

structure Placed (s w : Int) (p : Prg) : Prop where
  id : p.2.1 ≠ 0
  still : stillB p = true
  policy : p.2.2.1 ≤ 1
  pos : (p.2.2.2.1.length : Int) > 0
  lines : linesB s p.2.2.2.1 = true
  takes : takesB s w p.2.1 p.2.2.2.2.1 = true
  owes : linesB s p.2.2.2.2.2.1 = true
  covered : coveredB p.2.2.2.2.1 p.2.2.2.2.2.1 p.2.2.2.1 = true

theorem goodKind_place {s w : Int} {p : Prg} (hk : p.1 = 1) (h : goodP s w p = true) : Placed s w p := by
  unfold goodP goodKind at h
  rw [show (p.1 == 1) = true by rw [beq_iff_eq]; exact hk] at h
  simp only [cond_true, Bool.and_eq_true, orderedB, decide_eq_true_eq, bne_iff_ne, ne_eq] at h
  obtain ⟨_, ⟨h1, h2⟩, h3, h4, h5, h6, h7, h8, _⟩ := h
  exact ⟨h1, h2, h3, h4, h5, h6, h7, h8⟩

theorem coverP_at {a : P4} {w : List Int} (h : coverP a w = true) (k : Nat) (hk : k < 4) : coverK ([a.1, a.2.1, a.2.2.1, a.2.2.2].getD k []) (w.getD k 0) = true := by
  unfold coverP at h
  simp only [Bool.and_eq_true] at h
  match k, hk with
  | 0, _ => exact h.1
  | 1, _ => exact h.2.1
  | 2, _ => exact h.2.2.1
  | 3, _ => exact h.2.2.2

theorem covered_at {t : List Tk} {o l : List Ln} (h : coveredB t o l = true) (k : Nat) (hk : k < 4) : sumOf (namedOf k t o) = ((wantOf l).getD k 0, (true, ())) := by
  have := coverP_at h k hk
  have e : [(partsOf t o).1, (partsOf t o).2.1, (partsOf t o).2.2.1, (partsOf t o).2.2.2].getD k [] = namedOf k t o := by
    match k, hk with
    | 0, _ => rfl
    | 1, _ => rfl
    | 2, _ => rfl
    | 3, _ => rfl
  rw [e] at this
  unfold coverK at this
  simp only [Bool.and_eq_true, Bool.not_eq_true', bne_eq_false_iff_eq] at this
  exact Prod.ext this.2 (Prod.ext this.1 rfl)

theorem takesO_of {id : Int} {l : List Tk} (h : takesB 4 4 id l = true) : takesO id l = true := by
  unfold takesB at h
  unfold takesO
  simp only [Bool.and_eq_true] at h
  rw [allFrom_iff]
  intro j h1 h2
  have := (allFrom_iff.1 h.1) j h1 h2
  unfold takeR at this
  simp only [Bool.and_eq_true] at this
  exact this.1

theorem placed_good {p : Prg} (hp : Placed 4 4 p) (h : Few p) : goodO (placed p) = true := by
  unfold goodO placed
  simp only []
  rw [show (p.2.1 == 0) = false by rw [beq_eq_false_iff_ne]; exact hp.id, dec_f (by have := hp.policy; omega), show ((p.2.2.2.1.length : Int) == 0) = false by rw [beq_eq_false_iff_ne]; have := hp.pos; omega, hp.lines, hp.owes, takesO_of hp.takes, show takesO p.2.1 [] = true from rfl]
  simp only [Bool.not_false, Bool.true_and]
  rw [allFrom_iff]
  intro k _ hk
  unfold namedR
  simp only [List.append_nil]
  rw [covered_at hp.covered k (by omega), first_want hp.lines h.w1 k (by omega)]
  simp only [Bool.true_and]
  rw [dec_f (by omega)]; rfl

theorem wf_placed {p : Prg} (h : Few p) : FewO (placed p) :=
  ⟨⟨h.wf.2.1, h.wf.2.2.1, h.wf.2.2.2.1, h.wf.2.2.2.2.1, ⟨Nat.zero_le _, fun x hx => by cases hx⟩, h.wf.2.2.2.2.2.1, trivial⟩, h.lines, h.takes, by simp [placed], h.owes⟩

end Go.Proofs.Pure

/- The law OrderDoes. -/
namespace Go.Proofs.Pure
open Go.Proofs.D Go.Proofs.F

theorem few22_val (x : Ord) (h : WfE kOrder x) : pledgelaw22_Few x = some 0 ∨ (pledgelaw22_Few x = some 1 ∧ FewO x ∧ x.2.2.1.length ≤ 20 ∧ x.2.2.2.1.length ≤ 30 ∧ x.2.2.2.2.1.length ≤ 30 ∧ x.2.2.2.2.2.1.length ≤ 20) := by
  rcases few_val x with e | ⟨e, a, b, c, d⟩
  · exact .inl e
  · exact .inr ⟨e, ⟨h, by omega, by omega, by omega, by omega⟩, a, b, c, d⟩

/-- The order behind a program, or a filling: few things in it; good, if it was. -/
theorem apply_stays {x : Ord} {p : Prg} (h : FewO x) (b : x.2.2.2.1.length ≤ 30) (c : x.2.2.2.2.1.length ≤ 30) : FewO (applyO x p).1 ∧ (goodO x = true → goodO (applyO x p).1 = true) := by
  rcases apply_cases x p with ⟨e, _⟩ | ⟨hg, _, _, e⟩
  · rw [e]; exact ⟨h, fun q => q⟩
  · have hG := good_of h hg
    rcases e with ⟨_, e⟩ | ⟨_, e⟩ | ⟨_, e⟩ <;> rw [e]
    · exact ⟨cancelled_few h, fun _ => of_good (cancelled_good hG)⟩
    · exact ⟨shipped_few h hG (by omega), fun _ => of_good (shipped_good h hG).1⟩
    · exact ⟨returned_few h, fun _ => of_good (returned_good hG)⟩
theorem fill_stays {x : Ord} {t : Tk} (h : FewO x) (hw : WfE kTake t) (b : x.2.2.2.1.length ≤ 30) : FewO (fillO x t).1 ∧ (goodO x = true → goodO (fillO x t).1 = true) := by
  rcases fill_cases x t with ⟨e, _⟩ | ⟨hg, hb, ho, e⟩
  · rw [e]; exact ⟨h, fun q => q⟩
  · have hG := good_of h hg
    have hv := (base_valid hw).1 hb
    rw [e]
    exact ⟨filled_few h hw (by omega) hG hv ho, fun _ => of_good (filled_good h hG hv ho).1⟩

end Go.Proofs.Pure

/- The store's lists: where something stands; who waits. -/
namespace Go.Proofs.Pure
open Go.Proofs.D Go.Proofs.F

abbrev Wt := Int × Int × Unit
abbrev Sto := List Ord × List Wt × Unit

theorem bindK {A B : Type} {x : Option A} {a : A} {f : A → Option B} (h : x = some a) : x.bind f = f a := by rw [h]; rfl

/-! ### The first one -/
def ixF {α : Type} (p : α → Bool) : List α → Nat → Option Nat
  | [], _ => none
  | x :: l, i => bif p x then some i else ixF p l (i + 1)
def ix {α : Type} (p : α → Bool) (l : List α) : Option Nat := ixF p l 0
def ixI (k : Option Nat) : Int := match k with | some k => (k : Int) | none => -1

theorem walk_ix {α X : Type} (p : α → Bool) (f : Nat → X) (d : X) : ∀ (l : List α) (i : Nat), walkL (fun i x (_ : Unit) => bif p x then .inr (f i) else .inl ()) (fun _ => d) i l () = match ixF p l i with | some k => f k | none => d
  | [], _ => rfl
  | x :: l, i => by
    unfold ixF
    rw [walkL]
    cases p x with
    | true => rfl
    | false => exact walk_ix p f d l (i + 1)
theorem ixF_ge {α : Type} {p : α → Bool} : ∀ {l : List α} {i k : Nat}, ixF p l i = some k → i ≤ k
  | [], _, _, h => by cases h
  | x :: l, i, k, h => by
    unfold ixF at h
    cases q : p x with
    | true => rw [q] at h; cases h; exact Nat.le_refl _
    | false => rw [q] at h; have := ixF_ge h; omega
theorem ixF_iff {α : Type} {p : α → Bool} : ∀ {l : List α} {i k : Nat}, ixF p l i = some (i + k) ↔ (∃ x, l[k]? = some x ∧ p x = true) ∧ ∀ j, j < k → ∀ y, l[j]? = some y → p y = false
  | [], i, k => by simp [ixF]
  | x :: l, i, k => by
    unfold ixF
    cases q : p x with
    | true =>
      simp only [cond_true, Option.some.injEq]
      constructor
      · intro h
        have : k = 0 := by omega
        subst this
        exact ⟨⟨x, rfl, q⟩, fun j hj => by omega⟩
      · rintro ⟨_, h⟩
        cases k with
        | zero => rfl
        | succ k => have := h 0 (by omega) x rfl; rw [q] at this; cases this
    | false =>
      simp only [cond_false]
      cases k with
      | zero =>
        constructor
        · intro h; have := ixF_ge h; omega
        · rintro ⟨⟨y, h1, h2⟩, _⟩
          simp at h1; subst h1; rw [q] at h2; cases h2
      | succ k =>
        have ih := ixF_iff (p := p) (l := l) (i := i + 1) (k := k)
        rw [show i + 1 + k = i + (k + 1) by omega] at ih
        rw [ih]
        constructor
        · rintro ⟨h1, h2⟩
          refine ⟨by simpa using h1, fun j hj y hy => ?_⟩
          cases j with
          | zero => simp at hy; subst hy; exact q
          | succ j => exact h2 j (by omega) y (by simpa using hy)
        · rintro ⟨h1, h2⟩
          exact ⟨by simpa using h1, fun j hj y hy => h2 (j + 1) (by omega) y (by simpa using hy)⟩
theorem ix_iff {α : Type} {p : α → Bool} {l : List α} {k : Nat} : ix p l = some k ↔ (∃ x, l[k]? = some x ∧ p x = true) ∧ ∀ j, j < k → ∀ y, l[j]? = some y → p y = false := by
  have := ixF_iff (p := p) (l := l) (i := 0) (k := k)
  rw [Nat.zero_add] at this; exact this
theorem ixF_none {α : Type} {p : α → Bool} : ∀ {l : List α} {i : Nat}, ixF p l i = none ↔ ∀ x ∈ l, p x = false
  | [], i => by simp [ixF]
  | x :: l, i => by
    unfold ixF
    cases q : p x with
    | true => simp [q]
    | false => simp only [cond_false, ixF_none, List.mem_cons, forall_eq_or_imp, q, true_and]
theorem ix_none {α : Type} {p : α → Bool} {l : List α} : ix p l = none ↔ ∀ x ∈ l, p x = false := ixF_none
theorem ix_lt {α : Type} {p : α → Bool} {l : List α} {k : Nat} (h : ix p l = some k) : k < l.length := by
  obtain ⟨⟨x, hx, _⟩, _⟩ := ix_iff.1 h
  exact get_lt hx
theorem ixI_neg (k : Option Nat) : decide (ixI k < 0) = k.isNone := by
  cases k with
  | none => rfl
  | some k => exact dec_f (by show ¬ (k : Int) < 0; omega)
theorem ixI_ge (k : Option Nat) : decide (ixI k ≥ 0) = k.isSome := by
  cases k with
  | none => rfl
  | some k => exact dec_t (by show (k : Int) ≥ 0; omega)

/-! ### Orders -/
def isId (id : Int) (o : Ord) : Bool := o.1 == id
def atS (os : List Ord) (id : Int) : Option Nat := ix (isId id) os

theorem at_val (s : Sto) (id : Int) (hl : s.1.length < 1000000) : store_at s id = some (ixI (atS s.1 id)) := by
  unfold store_at slices_IndexFunc_api_Order_api_Order
  have := loop_walk (step := slices_IndexFunc_api_Order_api_Order.l1) s.1 (fun i (_ : Unit) => ((s.1, (((), ()), ((s.1.length : Int), (i : Int)))), (id, ()))) (fun i x _ => bif isId id x then .inr (.inr ((i : Int), (id, ()))) else .inl ()) (fun _ => .inl ((), (id, ()))) (fun _ _ => True) () (by omega) trivial (fun i x acc hx _ => by
    have hi := get_lt hx
    refine ⟨?_, fun _ _ => trivial⟩
    unfold slices_IndexFunc_api_Order_api_Order.l1 store_at_1 isId
    simp only [dec_t (show (i : Int) < (s.1.length : Int) by omega), cond_true]
    rw [nthK_get hx, Option.bind_some]
    cases x.1 == id with
    | true => rfl
    | false => simp only [cond_false]; rw [succ_i64 (by omega)]) (fun acc _ => by
    unfold slices_IndexFunc_api_Order_api_Order.l1
    simp only [dec_f (show ¬ (s.1.length : Int) < (s.1.length : Int) by omega), cond_false])
  rw [show (((0 : Nat) : Int)) = 0 from rfl, walk_ix (isId id) (fun k => Sum.inr ((k : Int), (id, ()))) (Sum.inl ((), (id, ())))] at this
  rw [this]
  unfold atS ix
  cases ixF (isId id) s.1 0 <;> rfl
theorem refat_val (s : Sto) (id : Int) (hl : s.1.length < 1000000) : pledgeref24_at s id = some (ixI (atS s.1 id)) := by
  unfold pledgeref24_at
  have := loop_walk (step := pledgeref24_at.l1) s.1 (fun i (_ : Unit) => ((id, ((), (i : Int))), (s, ()))) (fun i x _ => bif isId id x then .inr (.inr (i : Int)) else .inl ()) (fun _ => .inl ()) (fun _ _ => True) () (by omega) trivial (fun i x acc hx _ => by
    have hi := get_lt hx
    refine ⟨?_, fun _ _ => trivial⟩
    unfold pledgeref24_at.l1 isId
    simp only [dec_t (show (i : Int) < (s.1.length : Int) by omega), cond_true]
    rw [nthK_get hx]
    cases x.1 == id with
    | true => rfl
    | false => simp only [cond_false]; rw [succ_i64 (by omega)]) (fun acc _ => by
    unfold pledgeref24_at.l1
    simp only [dec_f (show ¬ (s.1.length : Int) < (s.1.length : Int) by omega), cond_false])
  rw [show (((0 : Nat) : Int)) = 0 from rfl, walk_ix (isId id) (fun k => Sum.inr (k : Int)) (Sum.inl ())] at this
  rw [this]
  unfold atS ix
  cases ixF (isId id) s.1 0 <;> rfl

/-! ### Who waits -/
theorem eqW_iff {a b : Wt} : eqE kWait a b = true ↔ a = b := by
  show ((a.1 == b.1) && ((a.2.1 == b.2.1) && true)) = true ↔ a = b
  obtain ⟨a1, a2, _⟩ := a
  obtain ⟨b1, b2, _⟩ := b
  simp
theorem eqW_dec (a b : Wt) : eqE kWait a b = decide (a = b) := by
  rw [Bool.eq_iff_iff, decide_eq_true_iff]; exact eqW_iff
def isW (w : Wt) (x : Wt) : Bool := decide (w = x)
theorem isW_none {w : Wt} {l : List Wt} : ix (isW w) l = none ↔ w ∉ l := by
  rw [ix_none]
  constructor
  · intro h q; have := h w q; unfold isW at this; simp at this
  · intro h x hx; unfold isW; exact dec_f (fun e => h (e ▸ hx))

theorem index_val (l : List Wt) (w : Wt) (hl : l.length < 1000000) : slices_Index_api_Wait_api_Wait l w = some (ixI (ix (isW w) l)) := by
  unfold slices_Index_api_Wait_api_Wait
  have := loop_walk (step := slices_Index_api_Wait_api_Wait.l1) l (fun i (_ : Unit) => ((l, ((), ((l.length : Int), (i : Int)))), (w, ()))) (fun i x _ => bif isW w x then .inr (.inr (i : Int)) else .inl ()) (fun _ => .inl ()) (fun _ _ => True) () (by omega) trivial (fun i x acc hx _ => by
    have hi := get_lt hx
    refine ⟨?_, fun _ _ => trivial⟩
    unfold slices_Index_api_Wait_api_Wait.l1 isW
    simp only [dec_t (show (i : Int) < (l.length : Int) by omega), cond_true]
    rw [nthK_get hx, eqW_dec]
    cases decide (w = x) with
    | true => rfl
    | false => simp only [cond_false]; rw [succ_i64 (by omega)]) (fun acc _ => by
    unfold slices_Index_api_Wait_api_Wait.l1
    simp only [dec_f (show ¬ (l.length : Int) < (l.length : Int) by omega), cond_false])
  rw [show (((0 : Nat) : Int)) = 0 from rfl, walk_ix (isW w) (fun k => Sum.inr (k : Int)) (Sum.inl ())] at this
  rw [this]
  unfold ix
  cases ixF (isW w) l 0 <;> rfl
theorem ref23at_val (l : List Wt) (w : Wt) (hl : l.length < 1000000) : pledgeref23_at l w = some (ixI (ix (isW w) l)) := by
  unfold pledgeref23_at
  have := loop_walk (step := pledgeref23_at.l1) l (fun i (_ : Unit) => ((l, ((), (i : Int))), (w, ()))) (fun i x _ => bif isW w x then .inr (.inr (i : Int)) else .inl ()) (fun _ => .inl ()) (fun _ _ => True) () (by omega) trivial (fun i x acc hx _ => by
    have hi := get_lt hx
    refine ⟨?_, fun _ _ => trivial⟩
    unfold pledgeref23_at.l1 isW
    simp only [dec_t (show (i : Int) < (l.length : Int) by omega), cond_true]
    rw [nthK_get hx, eqW_dec, decide_eq_decide.2 (@eq_comm _ x w)]
    cases decide (w = x) with
    | true => rfl
    | false => simp only [cond_false]; rw [succ_i64 (by omega)]) (fun acc _ => by
    unfold pledgeref23_at.l1
    simp only [dec_f (show ¬ (l.length : Int) < (l.length : Int) by omega), cond_false])
  rw [show (((0 : Nat) : Int)) = 0 from rfl, walk_ix (isW w) (fun k => Sum.inr (k : Int)) (Sum.inl ())] at this
  rw [this]
  unfold ix
  cases ixF (isW w) l 0 <;> rfl
theorem cloneW_val (l : List Wt) (h : l.length < 1000000) : slices_Clone_api_Wait_api_Wait l = some ((), (l, ())) := by
  unfold slices_Clone_api_Wait_api_Wait
  rw [room_ok (by omega)]

/-- One more, behind all; none twice. -/
def joinW (l : List Wt) (w : Wt) : List Wt := if w ∈ l then l else l ++ [w]
def joinE (l : List Wt) (w : Wt) : Int := if w ∈ l then 11 else 0
theorem join_val (l : List Wt) (w : Wt) (hl : l.length < 100000) : queue_Join l w = some (joinW l w, (joinE l w, ())) := by
  unfold queue_Join slices_Contains_api_Wait_api_Wait joinW joinE
  rw [index_val l w (by omega), Option.bind_some, ixI_ge, Option.bind_some, cloneW_val l (by omega)]
  cases h : ix (isW w) l with
  | none => rw [if_neg (isW_none.1 h), if_neg (isW_none.1 h)]; simp only [Option.isSome_none, cond_false, Option.bind_some]; rw [room_ok (by simp; omega)]
  | some k =>
    have hm : w ∈ l := Decidable.byContradiction fun q => by rw [isW_none.2 q] at h; cases h
    rw [if_pos hm, if_pos hm]; rfl
theorem refjoin_val (l : List Wt) (w : Wt) (hl : l.length < 100000) : pledgeref23_Join l w = some (joinW l w, (joinE l w, ())) := by
  unfold pledgeref23_Join joinW joinE
  rw [ref23at_val l w (by omega), Option.bind_some, ixI_ge]
  cases h : ix (isW w) l with
  | none =>
    rw [if_neg (isW_none.1 h), if_neg (isW_none.1 h)]
    simp only [Option.isSome_none, cond_false]
    rw [room_ok (by omega), room_ok (by simp; omega)]
  | some k =>
    have hm : w ∈ l := Decidable.byContradiction fun q => by rw [isW_none.2 q] at h; cases h
    rw [if_pos hm, if_pos hm]; rfl

/-- One goes. -/
def leaveW (l : List Wt) (w : Wt) : List Wt := match ix (isW w) l with | some k => l.take k ++ l.drop (k + 1) | none => l
def leaveE (l : List Wt) (w : Wt) : Int := if w ∈ l then 0 else 10
theorem leave_val (l : List Wt) (w : Wt) (hl : l.length < 100000) : queue_Leave l w = some (leaveW l w, (leaveE l w, ())) := by
  unfold queue_Leave leaveW leaveE
  rw [index_val l w (by omega), Option.bind_some, ixI_neg, cloneW_val l (by omega)]
  cases h : ix (isW w) l with
  | none => rw [if_neg (isW_none.1 h)]; rfl
  | some k =>
    have hk := ix_lt h
    have hm : w ∈ l := Decidable.byContradiction fun q => by rw [isW_none.2 q] at h; cases h
    rw [if_pos hm]
    simp only [Option.isNone_some, cond_false, Option.bind_some]
    unfold slices_Delete_api_Wait_api_Wait delF ixI
    simp only []
    rw [succ_i64 (by omega), chk_true (by rw [dec_t (by omega), dec_t (by omega), dec_t (by omega)]; rfl)]
    rfl
theorem flat_skip {l : List Wt} {k : Nat} : ∀ (i : Nat), i ≤ k → ((l.zipIdx i).flatMap fun x => bif (x.2 != k) then [x.1] else []) = l.take (k - i) ++ l.drop (k - i + 1) := by
  induction l with
  | nil => intro i _; simp
  | cons x l ih =>
    intro i hi
    rw [List.zipIdx_cons, List.flatMap_cons]
    by_cases e : i = k
    · subst e
      rw [show ((x, i).2 != i) = false by simp, Nat.sub_self]
      simp only [cond_false, List.nil_append, List.take_zero, Nat.zero_add, List.drop_succ_cons, List.drop_zero]
      have : ∀ (m : List Wt) (j : Nat), i < j → ((m.zipIdx j).flatMap fun x => bif (x.2 != i) then [x.1] else []) = m := by
        intro m
        induction m with
        | nil => intro j _; rfl
        | cons y m ihm =>
          intro j hj
          rw [List.zipIdx_cons, List.flatMap_cons, ihm (j + 1) (by omega), show ((y, j).2 != i) = true by simp; omega]; rfl
      exact this l (i + 1) (by omega)
    · rw [ih (i + 1) (by omega), show ((x, i).2 != k) = true by simp; exact e, show k - i = (k - (i + 1)) + 1 by omega]
      simp
theorem walk_skip {X : Type} (k : Nat) (fin : List Wt → X) : ∀ (l : List Wt) (i : Nat) (acc : List Wt), walkL (fun i x acc => .inl (acc ++ bif (i != k) then [x] else [])) fin i l acc = fin (acc ++ ((l.zipIdx i).flatMap fun x => bif (x.2 != k) then [x.1] else []))
  | [], i, acc => by simp [walkL]
  | x :: l, i, acc => by
    show walkL _ fin (i + 1) l _ = _
    rw [walk_skip k fin l (i + 1), List.zipIdx_cons, List.flatMap_cons, List.append_assoc]
theorem refleave_val (l : List Wt) (w : Wt) (hl : l.length < 100000) : pledgeref23_Leave l w = some (leaveW l w, (leaveE l w, ())) := by
  unfold pledgeref23_Leave leaveW leaveE
  rw [ref23at_val l w (by omega), Option.bind_some, ixI_neg]
  cases h : ix (isW w) l with
  | none => rw [if_neg (isW_none.1 h)]; rfl
  | some k =>
    have hk := ix_lt h
    have hm : w ∈ l := Decidable.byContradiction fun q => by rw [isW_none.2 q] at h; cases h
    rw [if_pos hm]
    simp only [Option.isNone_some, cond_false]
    unfold ixI
    simp only []
    have := loop_walk (step := pledgeref23_Leave.l1) l (fun i (acc : List Wt) => ((l, ((k : Int), ((), (i : Int)))), (acc, ()))) (fun i x acc => .inl (acc ++ bif (i != k) then [x] else [])) (fun acc => ((), (acc, ()))) (fun i acc => acc.length ≤ i) [] (by omega) (Nat.le_refl _) (fun i x acc hx hi => by
      have hi2 := get_lt hx
      have hb : (bif (i != k) then [x] else []).length ≤ 1 := by cases (i != k) <;> simp
      refine ⟨?_, fun _ h => by cases h; rw [List.length_append]; omega⟩
      unfold pledgeref23_Leave.l1
      simp only [dec_t (show (i : Int) < (l.length : Int) by omega), cond_true]
      by_cases e : i = k
      · subst e
        rw [show (((i : Int) : Int) != (i : Int)) = false by simp, show (i != i) = false by simp]
        simp only [cond_false, List.append_nil]
        rw [succ_i64 (by omega)]
      · rw [show (((i : Int) : Int) != (k : Int)) = true by simp; omega, show (i != k) = true by simp [e]]
        simp only [cond_true]
        rw [nthK_get hx, room_ok (by simp; omega), succ_i64 (by omega)]) (fun acc _ => by
      unfold pledgeref23_Leave.l1
      simp only [dec_f (show ¬ (l.length : Int) < (l.length : Int) by omega), cond_false])
    rw [show (((0 : Nat) : Int)) = 0 from rfl, walk_skip, flat_skip 0 (Nat.zero_le _)] at this
    rw [this]; rfl

/-- All of an order go. -/
def quitW (l : List Wt) (id : Int) : List Wt := l.filter fun w => !(w.1 == id)

/-- Which orders wait for an article. -/
def ofG (sku : Int) (w : Wt) : List Int := bif w.2.1 == sku then [w.1] else []
def ofW (l : List Wt) (sku : Int) : List Int := l.flatMap (ofG sku)
theorem of_val (l : List Wt) (sku : Int) (hl : l.length < 100000) : queue_Of l sku = some (ofW l sku) := by
  unfold queue_Of ofW
  have := loop_walk (step := queue_Of.l1) l (fun i (acc : List Int) => ((sku, ((), (l, ((l.length : Int), (i : Int))))), (acc, ()))) (fun _ x acc => .inl (acc ++ ofG sku x)) (fun acc => ((), (acc, ()))) (fun i acc => acc.length ≤ i) [] (by omega) (Nat.le_refl _) (fun i x acc hx hi => by
    have hi2 := get_lt hx
    have hb : (ofG sku x).length ≤ 1 := by unfold ofG; cases x.2.1 == sku <;> simp
    refine ⟨?_, fun _ h => by cases h; rw [List.length_append]; omega⟩
    unfold queue_Of.l1 ofG
    simp only [dec_t (show (i : Int) < (l.length : Int) by omega), cond_true]
    rw [nthK_get hx]
    cases x.2.1 == sku with
    | true => simp only [cond_true]; rw [room_ok (by simp; omega), succ_i64 (by omega)]
    | false => simp only [cond_false, List.append_nil]; rw [succ_i64 (by omega)]) (fun acc _ => by
    unfold queue_Of.l1
    simp only [dec_f (show ¬ (l.length : Int) < (l.length : Int) by omega), cond_false])
  rw [show (((0 : Nat) : Int)) = 0 from rfl, walk_gather, List.nil_append] at this
  rw [this]; rfl
theorem refof_val (l : List Wt) (sku : Int) (hl : l.length < 100000) : pledgeref23_Of l sku = some (ofW l sku) := by
  unfold pledgeref23_Of ofW
  have := loop_walk (step := pledgeref23_Of.l1) l (fun i (acc : List Int) => ((l, (sku, ((), (i : Int)))), (acc, ()))) (fun _ x acc => .inl (acc ++ ofG sku x)) (fun acc => ((), (acc, ()))) (fun i acc => acc.length ≤ i) [] (by omega) (Nat.le_refl _) (fun i x acc hx hi => by
    have hi2 := get_lt hx
    have hb : (ofG sku x).length ≤ 1 := by unfold ofG; cases x.2.1 == sku <;> simp
    refine ⟨?_, fun _ h => by cases h; rw [List.length_append]; omega⟩
    unfold pledgeref23_Of.l1 ofG
    simp only [dec_t (show (i : Int) < (l.length : Int) by omega), cond_true]
    rw [nthK_get hx]
    cases x.2.1 == sku with
    | true => simp only [cond_true]; rw [nthK_get hx, room_ok (by simp; omega), succ_i64 (by omega)]
    | false => simp only [cond_false, List.append_nil]; rw [succ_i64 (by omega)]) (fun acc _ => by
    unfold pledgeref23_Of.l1
    simp only [dec_f (show ¬ (l.length : Int) < (l.length : Int) by omega), cond_false])
  rw [show (((0 : Nat) : Int)) = 0 from rfl, walk_gather, List.nil_append] at this
  rw [this]; rfl
theorem quit_flat (id : Int) : ∀ l : List Wt, (l.flatMap fun x : Wt => bif !(x.1 == id) then [x] else []) = l.filter fun w => !(w.1 == id)
  | [] => rfl
  | x :: l => by
    rw [List.flatMap_cons, quit_flat id l]
    cases h : (x.1 == id) with
    | true => rw [List.filter_cons_of_neg (by simp [h])]; rfl
    | false => rw [List.filter_cons_of_pos (by simp [h])]; rfl
theorem refquit_val (l : List Wt) (id : Int) (hl : l.length < 100000) : pledgeref23_Quit l id = some (quitW l id) := by
  unfold pledgeref23_Quit quitW
  have := loop_walk (step := pledgeref23_Quit.l1) l (fun i (acc : List Wt) => ((l, (id, ((), (i : Int)))), (acc, ()))) (fun _ x acc => .inl (acc ++ bif !(x.1 == id) then [x] else [])) (fun acc => ((), (acc, ()))) (fun i acc => acc.length ≤ i) [] (by omega) (Nat.le_refl _) (fun i x acc hx hi => by
    have hi2 := get_lt hx
    have hb : (bif !(x.1 == id) then [x] else []).length ≤ 1 := by cases !(x.1 == id) <;> simp
    refine ⟨?_, fun _ h => by cases h; rw [List.length_append]; omega⟩
    unfold pledgeref23_Quit.l1
    simp only [dec_t (show (i : Int) < (l.length : Int) by omega), cond_true]
    rw [nthK_get hx, show (x.1 != id) = !(x.1 == id) from rfl]
    cases x.1 == id with
    | true => simp only [cond_true, Bool.not_true, cond_false, List.append_nil]; rw [succ_i64 (by omega)]
    | false => simp only [cond_true, Bool.not_false]; rw [nthK_get hx, room_ok (by simp; omega), succ_i64 (by omega)]) (fun acc _ => by
    unfold pledgeref23_Quit.l1
    simp only [dec_f (show ¬ (l.length : Int) < (l.length : Int) by omega), cond_false])
  rw [show (((0 : Nat) : Int)) = 0 from rfl, walk_gather (fun x : Wt => bif !(x.1 == id) then [x] else []), List.nil_append] at this
  rw [this]
  rw [quit_flat]; rfl

/-! ### slices.DeleteFunc -/
theorem indexq_val (l : List Wt) (id : Int) (hl : l.length < 1000000) : slices_IndexFunc_api_Wait_api_Wait l ((), ()) id = some (ixI (ix (fun w => w.1 == id) l), (id, ())) := by
  unfold slices_IndexFunc_api_Wait_api_Wait
  have := loop_walk (step := slices_IndexFunc_api_Wait_api_Wait.l1) l (fun i (_ : Unit) => ((l, (((), ()), ((l.length : Int), (i : Int)))), (id, ()))) (fun i (x : Wt) _ => bif x.1 == id then .inr (.inr ((i : Int), (id, ()))) else .inl ()) (fun _ => .inl ((), (id, ()))) (fun _ _ => True) () (by omega) trivial (fun i x acc hx _ => by
    have hi := get_lt hx
    refine ⟨?_, fun _ _ => trivial⟩
    unfold slices_IndexFunc_api_Wait_api_Wait.l1 queue_Quit_1
    simp only [dec_t (show (i : Int) < (l.length : Int) by omega), cond_true]
    rw [nthK_get hx, Option.bind_some]
    cases x.1 == id with
    | true => rfl
    | false => simp only [cond_false]; rw [succ_i64 (by omega)]) (fun acc _ => by
    unfold slices_IndexFunc_api_Wait_api_Wait.l1
    simp only [dec_f (show ¬ (l.length : Int) < (l.length : Int) by omega), cond_false])
  rw [show (((0 : Nat) : Int)) = 0 from rfl, walk_ix (fun w : Wt => w.1 == id) (fun k => Sum.inr ((k : Int), (id, ()))) (Sum.inl ((), (id, ())))] at this
  rw [this]
  unfold ix
  cases ixF (fun w : Wt => w.1 == id) l 0 <;> rfl

theorem delf_loop (id : Int) (l0 : List Wt) (hl : l0.length < 1000000) : ∀ (k j i : Nat) (l : List Wt), j + k = l0.length → i < j → l.length = l0.length → l.take i = quitW (l0.take j) id → l.drop j = l0.drop j →
    ∃ (i' : Nat) (l' : List Wt), i' < l0.length ∧ l'.length = l0.length ∧ l'.take i' = quitW l0 id ∧
      iterL slices_DeleteFunc_api_Wait_api_Wait.l1 (k + 1) (((), (((), ()), ((i : Int), (j : Int)))), (l, (id, ()))) = some (((), (i' : Int)), (l', (id, ())))
  | 0, j, i, l, hk, hi, hlen, ht, hd => by
    refine ⟨i, l, by omega, hlen, ?_, iterL_done ?_⟩
    · rw [ht, List.take_of_length_le (by omega)]
    · unfold slices_DeleteFunc_api_Wait_api_Wait.l1
      simp only [dec_f (show ¬ (j : Int) < (l.length : Int) by omega), cond_false]
  | k + 1, j, i, l, hk, hi, hlen, ht, hd => by
    have hj : j < l0.length := by omega
    have hx : l[j]? = some l0[j] := by
      have : (l.drop j)[0]? = (l0.drop j)[0]? := by rw [hd]
      rw [List.getElem?_drop, List.getElem?_drop] at this
      rw [Nat.add_zero] at this
      rw [this]; exact List.getElem?_eq_getElem hj
    have hd' : l.drop (j + 1) = l0.drop (j + 1) := by
      have : (l.drop j).drop 1 = (l0.drop j).drop 1 := by rw [hd]
      rwa [List.drop_drop, List.drop_drop] at this
    have htk : l0.take (j + 1) = l0.take j ++ [l0[j]] := by rw [List.take_add_one, List.getElem?_eq_getElem hj]; rfl
    have hq : quitW (l0.take (j + 1)) id = quitW (l0.take j) id ++ (bif !(l0[j].1 == id) then [l0[j]] else []) := by
      unfold quitW
      rw [htk, List.filter_append]
      cases h : (l0[j].1 == id) with
      | true => rw [List.filter_cons_of_neg (by simp [h])]; rfl
      | false => rw [List.filter_cons_of_pos (by simp [h])]; rfl
    cases h : (l0[j].1 == id) with
    | true =>
      rw [h] at hq
      simp only [Bool.not_true, cond_false, List.append_nil] at hq
      obtain ⟨i', l', a, b, c, d⟩ := delf_loop id l0 hl k (j + 1) i l (by omega) (by omega) hlen (by rw [ht, hq]) hd'
      refine ⟨i', l', a, b, c, ?_⟩
      rw [iterL_next (v' := (((), (((), ()), ((i : Int), ((j + 1 : Nat) : Int)))), (l, (id, ())))) ?_]
      · exact d
      · unfold slices_DeleteFunc_api_Wait_api_Wait.l1 queue_Quit_1
        simp only [dec_t (show (j : Int) < (l.length : Int) by omega), cond_true, dec_t (show (0 : Int) ≤ (j : Int) by omega), Bool.and_true]
        rw [chk_true rfl, nthK_get hx, Option.bind_some, h]
        simp only [Bool.not_true, cond_false]
        rw [succ_i64 (by omega)]
    | false =>
      rw [h] at hq
      simp only [Bool.not_false, cond_true] at hq
      have hil : i < l.length := by omega
      obtain ⟨i', l', a, b, c, d⟩ := delf_loop id l0 hl k (j + 1) (i + 1) (l.set i l0[j]) (by omega) (by omega) (by rw [List.length_set]; exact hlen) (by
        rw [hq, ← ht, List.take_add_one, List.take_set_of_le (Nat.le_refl _), List.getElem?_set_self hil]; rfl) (by rw [List.drop_set_of_lt (by omega)]; exact hd')
      refine ⟨i', l', a, b, c, ?_⟩
      rw [iterL_next (v' := (((), (((), ()), (((i + 1 : Nat) : Int), ((j + 1 : Nat) : Int)))), (l.set i l0[j], (id, ())))) ?_]
      · exact d
      · unfold slices_DeleteFunc_api_Wait_api_Wait.l1 queue_Quit_1
        simp only [dec_t (show (j : Int) < (l.length : Int) by omega), cond_true, dec_t (show (0 : Int) ≤ (j : Int) by omega), Bool.and_true]
        rw [chk_true rfl, nthK_get hx, Option.bind_some, h]
        simp only [Bool.not_false, cond_true]
        rw [dec_t (show (0 : Int) ≤ (i : Int) by omega), dec_t (show (i : Int) < (l.length : Int) by omega), chk_true (b := true && true) rfl]
        show nthN l i _ = _
        rw [nthN_get (List.getElem?_eq_getElem hil), succ_i64 (by omega), succ_i64 (by omega)]

theorem clr_val (l : List Wt) (i : Nat) (id : Int) (h : i < l.length) : clrG kWait (.int .u32) (((), (i : Int)), (l, (id, ()))) = some (((), (i : Int)), (l.take i ++ List.replicate (l.length - i) ((0, (0, ())) : Wt), (id, ()))) := by
  show chk (decide (0 ≤ (i : Int)) && decide ((i : Int) < (l.length : Int))) (some (((), (i : Int)), (l.take (i : Int).toNat ++ List.replicate (l.length - (i : Int).toNat) ((0, (0, ())) : Wt), (id, ())))) = _
  rw [chk_true (by rw [dec_t (by omega), dec_t (by omega)]; rfl), Int.toNat_natCast]
theorem quit_val (l : List Wt) (id : Int) (hl : l.length < 100000) : queue_Quit l id = some (quitW l id) := by
  unfold queue_Quit slices_DeleteFunc_api_Wait_api_Wait
  rw [cloneW_val l (by omega), Option.bind_some]
  simp only []
  rw [indexq_val l id (by omega), Option.bind_some]
  cases h : ix (fun w : Wt => w.1 == id) l with
  | none =>
    have : quitW l id = l := by
      unfold quitW
      rw [List.filter_eq_self]
      intro x hx
      have := ix_none.1 h x hx
      simp only [this]; rfl
    rw [this]; rfl
  | some k =>
    obtain ⟨⟨x, hx, hp⟩, hb⟩ := ix_iff.1 h
    have hk := get_lt hx
    unfold ixI
    simp only []
    rw [show (((k : Int) : Int) == (-1)) = false from beq_eq_false_iff_ne.2 (by omega)]
    simp only [cond_false]
    have hk2 : quitW (l.take (k + 1)) id = l.take k := by
      unfold quitW
      rw [List.take_add_one, hx, Option.toList_some, List.filter_append, List.filter_cons_of_neg (by simpa using hp), List.filter_nil, List.append_nil, List.filter_eq_self]
      intro y hy
      obtain ⟨j, hj, e⟩ := List.getElem_of_mem hy
      rw [List.length_take] at hj
      have := hb j (by omega) y (by rw [← e, List.getElem_take, List.getElem?_eq_getElem])
      simp only [this]; rfl
    obtain ⟨i', l', a, b, c, d⟩ := delf_loop id l (by omega) (l.length - (k + 1)) (k + 1) k l (by omega) (by omega) rfl hk2.symm rfl
    rw [succ_i64 (by omega)]
    have d := iterL_mono d (m := loopN) (by rw [loopN_eq]; omega)
    rw [d, Option.bind_some]
    refine (congrArg (fun o => Option.bind (Option.bind o _) _) (clr_val l' i' id (by omega))).trans ?_
    have hl2 : (l'.take i' ++ List.replicate (l'.length - i') ((0, (0, ())) : Wt)).length = l'.length := by rw [List.length_append, List.length_take, List.length_replicate]; omega
    have ht2 : ((l'.take i' ++ List.replicate (l'.length - i') ((0, (0, ())) : Wt)).take i').drop 0 = quitW l id := by
      rw [List.drop_zero, List.take_append_of_le_length (by rw [List.length_take]; omega), List.take_take, Nat.min_self, c]
    show (chk (decide (0 ≤ (i' : Int)) && decide ((i' : Int) ≤ ((l'.take i' ++ List.replicate (l'.length - i') ((0, (0, ())) : Wt)).length : Int))) (some ((((l'.take i' ++ List.replicate (l'.length - i') ((0, (0, ())) : Wt)).take (i' : Int).toNat).drop 0, ((l'.take i' ++ List.replicate (l'.length - i') ((0, (0, ())) : Wt)), (id, ()))) : List Wt × List Wt × Int × Unit))).bind _ = _
    rw [chk_true (by rw [dec_t (by omega), dec_t (by omega)]; rfl), Option.bind_some, Int.toNat_natCast, ht2]
end Go.Proofs.Pure

/- Which stores may be. -/
namespace Go.Proofs.Pure
open Go.Proofs.D Go.Proofs.F

/-! ### All of them, one by one -/
def allI {α : Type} (p : Nat → α → Bool) : Nat → List α → Bool
  | _, [] => true
  | i, x :: l => p i x && allI p (i + 1) l
theorem allI_iff {α : Type} {p : Nat → α → Bool} : ∀ {l : List α} {i : Nat}, allI p i l = true ↔ ∀ k x, l[k]? = some x → p (i + k) x = true
  | [], i => by simp [allI]
  | x :: l, i => by
    unfold allI
    rw [Bool.and_eq_true, allI_iff (l := l) (i := i + 1)]
    constructor
    · rintro ⟨h1, h2⟩ k y hy
      cases k with
      | zero => simp at hy; subst hy; exact h1
      | succ k => have := h2 k y (by simpa using hy); rwa [show i + 1 + k = i + (k + 1) by omega] at this
    · intro h
      exact ⟨h 0 x rfl, fun k y hy => by have := h (k + 1) y (by simpa using hy); rwa [show i + (k + 1) = i + 1 + k by omega] at this⟩
theorem walk_allfold {α A X : Type} (p : Nat → α → Bool) (g : A → α → A) (fin : A → X) (r : X) : ∀ (l : List α) (i : Nat) (acc : A), walkL (fun i x a => bif p i x then .inl (g a x) else .inr r) fin i l acc = bif allI p i l then fin (l.foldl g acc) else r
  | [], _, _ => rfl
  | x :: l, i, acc => by
    rw [walkL]
    unfold allI
    cases p i x with
    | true => exact walk_allfold p g fin r l (i + 1) (g acc x)
    | false => rfl

/-! ### What is kept by the map -/
abbrev WM := List (Wt × Int)
def gW (m : WM) (k : Wt) : Int := getM kWait (.int .i64) m k
def pW (m : WM) (k : Wt) (v : Int) : WM := putM kWait (.int .i64) m k v
def keysW (m : WM) : List Wt := m.map fun p => p.1
theorem pW_cons (e : Wt × Int) (r : WM) (y : Wt) (z : Int) : pW (e :: r) y z = if y = e.1 then (y, z) :: r else e :: pW r y z := by
  show (bif eqE kWait y e.1 then (y, z) :: r else e :: pW r y z) = _
  rw [eqW_dec]
  by_cases h : y = e.1
  · rw [if_pos h, dec_t h]; rfl
  · rw [if_neg h, dec_f h]; rfl
theorem gW_cons (e : Wt × Int) (r : WM) (k : Wt) : gW (e :: r) k = if k = e.1 then e.2 else gW r k := by
  show (bif eqE kWait k e.1 then e.2 else gW r k) = _
  rw [eqW_dec]
  by_cases h : k = e.1
  · rw [if_pos h, dec_t h]; rfl
  · rw [if_neg h, dec_f h]; rfl
theorem gW_put (es : WM) (y k : Wt) (z : Int) : gW (pW es y z) k = if k = y then z else gW es k := by
  induction es with
  | nil =>
    show gW [(y, z)] k = _
    rw [gW_cons]
  | cons e r ih =>
    rw [pW_cons]
    by_cases h : y = e.1
    · rw [if_pos h, gW_cons, gW_cons]
      by_cases h2 : k = y
      · rw [if_pos h2, if_pos h2]
      · rw [if_neg h2, if_neg h2, if_neg (by rw [← h]; exact h2)]
    · rw [if_neg h, gW_cons, gW_cons, ih]
      by_cases h2 : k = e.1
      · rw [if_pos h2, if_neg (by rw [h2]; exact fun q => h q.symm), if_pos h2]
      · rw [if_neg h2, if_neg h2]
theorem keysW_put (es : WM) (y : Wt) (z : Int) : keysW (pW es y z) = if y ∈ keysW es then keysW es else keysW es ++ [y] := by
  induction es with
  | nil => rw [if_neg (by simp [keysW])]; rfl
  | cons e r ih =>
    rw [pW_cons]
    by_cases h : y = e.1
    · rw [if_pos h, if_pos (by simp [keysW, h])]
      show y :: keysW r = e.1 :: keysW r
      rw [h]
    · rw [if_neg h]
      show e.1 :: keysW (pW r y z) = if y ∈ e.1 :: keysW r then e.1 :: keysW r else e.1 :: keysW r ++ [y]
      rw [ih]
      by_cases h2 : y ∈ keysW r
      · rw [if_pos h2, if_pos (List.mem_cons_of_mem _ h2)]
      · rw [if_neg h2, if_neg (fun q => (List.mem_cons.1 q).elim h h2)]; rfl
theorem gW_none {es : WM} {k : Wt} (h : k ∉ keysW es) : gW es k = 0 := by
  induction es with
  | nil => rfl
  | cons e r ih =>
    rw [gW_cons, if_neg (fun q => h (by simp [keysW, q])), ih (fun q => h (List.mem_cons_of_mem _ q))]
def ownsM (es : WM) (ws : List Wt) : WM := ws.foldl (fun es w => pW es w 1) es
theorem owns_get : ∀ (ws : List Wt) (es : WM) (k : Wt), gW (ownsM es ws) k = if k ∈ ws then 1 else gW es k
  | [], es, k => by rw [if_neg (by simp)]; rfl
  | w :: ws, es, k => by
    show gW (ownsM (pW es w 1) ws) k = _
    rw [owns_get ws, gW_put]
    by_cases h : k ∈ ws
    · rw [if_pos h, if_pos (List.mem_cons_of_mem _ h)]
    · rw [if_neg h]
      by_cases h2 : k = w
      · rw [if_pos h2, if_pos (by simp [h2])]
      · rw [if_neg h2, if_neg (fun q => (List.mem_cons.1 q).elim h2 h)]
theorem owns_keys : ∀ (ws : List Wt) (es : WM), (keysW es ++ ws).Nodup → keysW (ownsM es ws) = keysW es ++ ws
  | [], es, _ => by simp [ownsM]
  | w :: ws, es, h => by
    show keysW (ownsM (pW es w 1) ws) = _
    have hn : w ∉ keysW es := fun q => (List.nodup_append.1 h).2.2 w q w List.mem_cons_self rfl
    have hk : keysW (pW es w 1) = keysW es ++ [w] := by rw [keysW_put, if_neg hn]
    rw [owns_keys ws (pW es w 1) (by rw [hk, List.append_assoc]; exact h), hk, List.append_assoc]; rfl

/-! ### Lists without doubles -/
theorem nodup_len {α : Type} [DecidableEq α] : ∀ {a b : List α}, a.Nodup → (∀ x ∈ a, x ∈ b) → a.length ≤ b.length
  | [], b, _, _ => Nat.zero_le _
  | x :: a, b, h, hs => by
    have hx := List.nodup_cons.1 h
    have := nodup_len (a := a) (b := b.erase x) hx.2 (fun y hy => (List.mem_erase_of_ne (fun (e : y = x) => hx.1 (by rw [← e]; exact hy))).2 (hs y (List.mem_cons_of_mem _ hy)))
    have hm := hs x List.mem_cons_self
    rw [List.length_erase_of_mem hm] at this
    have := List.length_pos_of_mem hm
    rw [List.length_cons]; omega
theorem nodup_back {α : Type} [DecidableEq α] {a b : List α} (h : a.Nodup) (hs : ∀ x ∈ a, x ∈ b) (hl : b.length ≤ a.length) : ∀ x ∈ b, x ∈ a := by
  intro y hy
  refine Decidable.byContradiction fun q => ?_
  have := nodup_len (a := y :: a) (b := b) (List.nodup_cons.2 ⟨q, h⟩) (fun x hx => by
    rcases List.mem_cons.1 hx with e | e
    · rw [e]; exact hy
    · exact hs x e)
  rw [List.length_cons] at this; omega

/-! ### What is owed -/
def oweO (o : Ord) : List Wt := o.2.2.2.2.2.1.map fun x => (o.1, (x.1, ()))
def oweL (os : List Ord) : List Wt := os.flatMap oweO
theorem mem_owe {os : List Ord} {w : Wt} : w ∈ oweL os ↔ ∃ o ∈ os, o.1 = w.1 ∧ ∃ x ∈ o.2.2.2.2.2.1, x.1 = w.2.1 := by
  unfold oweL oweO
  rw [List.mem_flatMap]
  constructor
  · rintro ⟨o, ho, hw⟩
    obtain ⟨x, hx, e⟩ := List.mem_map.1 hw
    subst e
    exact ⟨o, ho, rfl, x, hx, rfl⟩
  · rintro ⟨o, ho, e1, x, hx, e2⟩
    obtain ⟨w1, w2, _⟩ := w
    have e1 : o.1 = w1 := e1
    have e2 : x.1 = w2 := e2
    subst e1; subst e2
    exact ⟨o, ho, List.mem_map.2 ⟨x, hx, rfl⟩⟩

structure FewS (s : Sto) : Prop where
  len : s.1.length ≤ 100
  few : ∀ o ∈ s.1, FewO o
  waits : s.2.1.length ≤ 1000

def P1 (os : List Ord) : Bool := allI (fun i o => goodO o && (ixI (atS os o.1) == (i : Int))) 0 os
theorem P1_iff {os : List Ord} : P1 os = true ↔ ∀ k o, os[k]? = some o → goodO o = true ∧ atS os o.1 = some k := by
  unfold P1
  rw [allI_iff]
  constructor
  · intro h k o ho
    have := h k o ho
    rw [Nat.zero_add, Bool.and_eq_true, beq_iff_eq] at this
    refine ⟨this.1, ?_⟩
    cases q : atS os o.1 with
    | none => rw [q] at this; have t : (-1 : Int) = k := this.2; omega
    | some j => rw [q] at this; have t : (j : Int) = k := this.2; rw [show j = k by omega]
  · intro h k o ho
    obtain ⟨h1, h2⟩ := h k o ho
    rw [Nat.zero_add, Bool.and_eq_true, beq_iff_eq, h2]
    exact ⟨h1, rfl⟩
def waitsB (own ws : List Wt) : Bool := decide ((∀ w ∈ ws, w ∈ own) ∧ ws.Nodup)
/-- Which stores may be. -/
def goodS (s : Sto) : Bool := decide (s.1.length ≤ 32) && (P1 s.1 && (waitsB (oweL s.1) s.2.1 && decide (s.2.1.length = (oweL s.1).length)))

theorem own_id {os : List Ord} (h : P1 os = true) {o o' : Ord} (ho : o ∈ os) (ho' : o' ∈ os) (e : o.1 = o'.1) : o = o' := by
  obtain ⟨k, hk, e1⟩ := List.getElem_of_mem ho
  obtain ⟨j, hj, e2⟩ := List.getElem_of_mem ho'
  have h1 := ((P1_iff.1 h) k o (by rw [← e1]; exact List.getElem?_eq_getElem hk)).2
  have h2 := ((P1_iff.1 h) j o' (by rw [← e2]; exact List.getElem?_eq_getElem hj)).2
  rw [e, h2] at h1
  cases h1
  rw [← e1, ← e2]
theorem owe_nodup_one {lo : Int} (id : Int) : ∀ {l : List Ln}, lnFrom lo l → (l.map fun x => ((id, (x.1, ())) : Wt)).Nodup ∧ ∀ x ∈ l, lo < x.1
  | [], _ => ⟨List.nodup_nil, fun x hx => by cases hx⟩
  | x :: l, h => by
    obtain ⟨h1, h2, h3, h4⟩ := h
    obtain ⟨a, b⟩ := owe_nodup_one id (lo := x.1) (l := l) h4
    refine ⟨List.nodup_cons.2 ⟨fun q => ?_, a⟩, fun y hy => ?_⟩
    · obtain ⟨y, hy, e⟩ := List.mem_map.1 q
      have := b y hy
      have e : y.1 = x.1 := congrArg (fun w : Wt => w.2.1) e
      omega
    · rcases List.mem_cons.1 hy with e | e
      · rw [e]; exact h1
      · have := b y e; omega

theorem good_at {os : List Ord} (h : P1 os = true) : ∀ o ∈ os, goodO o = true := fun o ho => by
  obtain ⟨k, hk, e⟩ := List.getElem_of_mem ho
  exact ((P1_iff.1 h) k o (by rw [← e]; exact List.getElem?_eq_getElem hk)).1
theorem ids_nodup {os : List Ord} (h : P1 os = true) : (os.map (·.1)).Nodup := by
  rw [List.nodup_iff_pairwise_ne, List.pairwise_iff_getElem]
  intro i j hi hj hij e
  rw [List.length_map] at hi hj
  rw [List.getElem_map, List.getElem_map] at e
  have h1 := ((P1_iff.1 h) i os[i] (List.getElem?_eq_getElem hi)).2
  have h2 := ((P1_iff.1 h) j os[j] (List.getElem?_eq_getElem hj)).2
  rw [e, h2] at h1
  cases h1; omega
theorem owe_nodup {os : List Ord} (hf : ∀ o ∈ os, FewO o) (hg : ∀ o ∈ os, goodO o = true) (hn : (os.map (·.1)).Nodup) : (oweL os).Nodup := by
  induction os with
  | nil => exact List.nodup_nil
  | cons o os ih =>
    have hn := List.nodup_cons.1 hn
    have ih := ih (fun x hx => hf x (List.mem_cons_of_mem _ hx)) (fun x hx => hg x (List.mem_cons_of_mem _ hx)) hn.2
    show (oweO o ++ oweL os).Nodup
    refine List.nodup_append.2 ⟨(owe_nodup_one o.1 (good_of (hf o List.mem_cons_self) (hg o List.mem_cons_self)).owes).1, ih, fun a ha b hb e => ?_⟩
    subst e
    obtain ⟨o', ho', e1, _⟩ := mem_owe.1 hb
    obtain ⟨x, hx, e2⟩ := List.mem_map.1 ha
    have e2 : o.1 = a.1 := congrArg (fun w : Wt => w.1) e2
    exact hn.1 (List.mem_map.2 ⟨o', ho', e1.trans e2.symm⟩)

/-! ### The program's way -/
def ownM (es : WM) (o : Ord) : WM := ownsM es (oweO o)
theorem own_fold : ∀ (os : List Ord) (es : WM), os.foldl ownM es = ownsM es (oweL os)
  | [], es => rfl
  | o :: os, es => by
    show os.foldl ownM (ownM es o) = ownsM es (oweO o ++ oweL os)
    rw [own_fold os]
    unfold ownM ownsM
    rw [List.foldl_append]
theorem good_l2 (s : Sto) (os : List Ord) (n i : Int) (o : Ord) (es : WM) (hl : o.2.2.2.2.2.1.length < 1000000) :
    iterL store_Good.l2 loopN (((), ((), ((), (os, (n, (i, (o.2.2.2.2.2.1, ((o.2.2.2.2.2.1.length : Int), 0)))))))), (s, (es, (o, ())))) = some (((), ((), (os, (n, i)))), (s, (ownM es o, ()))) := by
  have := loop_walk (step := store_Good.l2) o.2.2.2.2.2.1 (fun j (es : WM) => (((), ((), ((), (os, (n, (i, (o.2.2.2.2.2.1, ((o.2.2.2.2.2.1.length : Int), (j : Int))))))))), (s, (es, (o, ()))))) (fun _ x es => bif true then .inl (pW es (o.1, (x.1, ())) 1) else .inr (((), ((), (os, (n, i)))), (s, (es, ())))) (fun es => (((), ((), (os, (n, i)))), (s, (es, ())))) (fun _ _ => True) es (by omega) trivial (fun j x es hx _ => by
    have hj := get_lt hx
    refine ⟨?_, fun _ _ => trivial⟩
    unfold store_Good.l2
    simp only [dec_t (show (j : Int) < (o.2.2.2.2.2.1.length : Int) by omega), cond_true]
    rw [nthK_get hx, succ_i64 (by omega)]; rfl) (fun es _ => by
    unfold store_Good.l2
    simp only [dec_f (show ¬ (o.2.2.2.2.2.1.length : Int) < (o.2.2.2.2.2.1.length : Int) by omega), cond_false])
  rw [show (((0 : Nat) : Int)) = 0 from rfl] at this
  rw [this]
  have hw : ∀ (l : List Ln) (j : Nat) (es : WM), walkL (X := (Unit × Unit × List Ord × Int × Int) × Sto × WM × Unit) (fun _ (x : Ln) es => bif true then .inl (pW es (o.1, (x.1, ())) 1) else .inr (((), ((), (os, (n, i)))), (s, (es, ())))) (fun es => (((), ((), (os, (n, i)))), (s, (es, ())))) j l es = (((), ((), (os, (n, i)))), (s, (ownsM es (l.map fun x => (o.1, (x.1, ()))), ()))) := by
    intro l
    induction l with
    | nil => intro j es; rfl
    | cons x l ih => intro j es; rw [walkL]; exact ih (j + 1) _
  rw [hw]; rfl
theorem good_l1 (s : Sto) (h : FewS s) : iterL store_Good.l1 loopN (((), ((), (s.1, ((s.1.length : Int), 0)))), (s, ([], ()))) = some (bif P1 s.1 then .inl (((), ()), (s, (ownsM [] (oweL s.1), ()))) else .inr false) := by
  have hl := h.len
  have := loop_walk (step := store_Good.l1) s.1 (fun i (es : WM) => (((), ((), (s.1, ((s.1.length : Int), (i : Int))))), (s, (es, ())))) (X := ((Unit × Unit) × Sto × WM × Unit) ⊕ Bool) (fun i o es => bif goodO o && (ixI (atS s.1 o.1) == (i : Int)) then .inl (ownM es o) else .inr (.inr false)) (fun es => .inl (((), ()), (s, (es, ())))) (fun _ _ => True) [] (by omega) trivial (fun i o es hx _ => by
    have hi := get_lt hx
    have hf := h.few o (get_mem hx)
    have hfo := hf.owes
    refine ⟨?_, fun _ _ => trivial⟩
    unfold store_Good.l1
    simp only [dec_t (show (i : Int) < (s.1.length : Int) by omega), cond_true]
    rw [nthK_get hx, orderGood_val o hf, Option.bind_some]
    cases goodO o with
    | false => rfl
    | true =>
      simp only [Bool.not_true, cond_false, Bool.true_and]
      rw [at_val s o.1 (by omega), Option.bind_some, show (ixI (atS s.1 o.1) != (i : Int)) = !(ixI (atS s.1 o.1) == (i : Int)) from rfl]
      cases ixI (atS s.1 o.1) == (i : Int) with
      | false => rfl
      | true =>
        simp only [Bool.not_true, cond_false, cond_true]
        rw [good_l2 s s.1 _ _ o es (by omega), Option.bind_some]
        simp only []
        rw [succ_i64 (by omega)]) (fun es _ => by
    unfold store_Good.l1
    simp only [dec_f (show ¬ (s.1.length : Int) < (s.1.length : Int) by omega), cond_false])
  rw [show (((0 : Nat) : Int)) = 0 from rfl, walk_allfold (fun i o => goodO o && (ixI (atS s.1 o.1) == (i : Int)))] at this
  rw [this, own_fold]; rfl
theorem waits_walk {X : Type} (own : List Wt) (fin : WM → X) (r : X) : ∀ (ws : List Wt) (i : Nat) (es : WM) (pre : List Wt), (∀ k, gW es k = if k ∈ pre then 2 else if k ∈ own then 1 else 0) → keysW es = own →
    ∃ es', keysW es' = own ∧ walkL (fun _ w es => bif gW es w != 1 then .inr r else .inl (pW es w 2)) fin i ws es = bif decide ((∀ w ∈ ws, w ∈ own ∧ w ∉ pre) ∧ ws.Nodup) then fin es' else r
  | [], i, es, pre, hg, hk => ⟨es, hk, by rw [dec_t (by simp)]; rfl⟩
  | w :: ws, i, es, pre, hg, hk => by
    rw [walkL]
    by_cases h : w ∈ own ∧ w ∉ pre
    · have e : gW es w = 1 := by rw [hg, if_neg h.2, if_pos h.1]
      rw [e]
      obtain ⟨es', a, b⟩ := waits_walk own fin r ws (i + 1) (pW es w 2) (w :: pre) (fun k => by
        rw [gW_put, hg]
        by_cases q : k = w
        · rw [if_pos q, if_pos (by simp [q])]
        · rw [if_neg q]
          by_cases q2 : k ∈ pre
          · rw [if_pos q2, if_pos (List.mem_cons_of_mem _ q2)]
          · rw [if_neg q2, if_neg (fun t => (List.mem_cons.1 t).elim q q2)]) (by rw [keysW_put, if_pos (by rw [hk]; exact h.1), hk])
      refine ⟨es', a, ?_⟩
      show walkL _ fin (i + 1) ws (pW es w 2) = _
      rw [b]
      congr 1
      refine decide_eq_decide.2 ⟨fun ⟨h1, h2⟩ => ⟨fun x hx => ?_, List.nodup_cons.2 ⟨fun hw => (h1 w hw).2 List.mem_cons_self, h2⟩⟩, fun ⟨h1, h2⟩ => ⟨fun x hx => ?_, (List.nodup_cons.1 h2).2⟩⟩
      · rcases List.mem_cons.1 hx with e | e
        · rw [e]; exact h
        · exact ⟨(h1 x e).1, fun q => (h1 x e).2 (List.mem_cons_of_mem _ q)⟩
      · have := h1 x (List.mem_cons_of_mem _ hx)
        refine ⟨this.1, fun q => ?_⟩
        rcases List.mem_cons.1 q with e | e
        · exact (List.nodup_cons.1 h2).1 (e ▸ hx)
        · exact this.2 e
    · have e : (gW es w != 1) = true := by
        rw [hg]
        by_cases q : w ∈ pre
        · rw [if_pos q]; rfl
        · rw [if_neg q, if_neg (fun t => h ⟨t, q⟩)]; rfl
      rw [e]
      refine ⟨es, hk, ?_⟩
      rw [dec_f (fun q => h (q.1 w List.mem_cons_self))]; rfl
theorem good_l3 (s : Sto) (es : WM) (hl : s.2.1.length < 100000) : iterL store_Good.l3 loopN (((), ((), (s.2.1, ((s.2.1.length : Int), 0)))), (s, (es, ()))) =
    some (walkL (X := ((Unit × Unit) × Sto × WM × Unit) ⊕ Bool) (fun _ w es => bif gW es w != 1 then .inr (.inr false) else .inl (pW es w 2)) (fun es => .inl (((), ()), (s, (es, ())))) 0 s.2.1 es) := by
  have := loop_walk (step := store_Good.l3) s.2.1 (fun i (es : WM) => (((), ((), (s.2.1, ((s.2.1.length : Int), (i : Int))))), (s, (es, ())))) (X := ((Unit × Unit) × Sto × WM × Unit) ⊕ Bool) (fun _ w es => bif gW es w != 1 then .inr (.inr false) else .inl (pW es w 2)) (fun es => .inl (((), ()), (s, (es, ())))) (fun _ _ => True) es (by omega) trivial (fun i w es hx _ => by
    have hi := get_lt hx
    refine ⟨?_, fun _ _ => trivial⟩
    unfold store_Good.l3
    simp only [dec_t (show (i : Int) < (s.2.1.length : Int) by omega), cond_true]
    rw [nthK_get hx]
    show (bif (gW es w != 1) then _ else _) = _
    cases gW es w != 1 with
    | true => rfl
    | false => simp only [cond_false]; rw [succ_i64 (by omega)]; rfl) (fun es _ => by
    unfold store_Good.l3
    simp only [dec_f (show ¬ (s.2.1.length : Int) < (s.2.1.length : Int) by omega), cond_false])
  rw [show (((0 : Nat) : Int)) = 0 from rfl] at this
  exact this

theorem storeGood_val (s : Sto) (h : FewS s) : store_Good s = some (goodS s) := by
  have hw := h.waits
  unfold store_Good goodS
  by_cases c : s.1.length ≤ 32
  · rw [dec_f (show ¬ (s.1.length : Int) > 32 by omega), dec_t c]
    simp only [cond_false, Bool.true_and]
    rw [good_l1 s h, Option.bind_some]
    cases hp : P1 s.1 with
    | false => rfl
    | true =>
      simp only [cond_true, Bool.true_and]
      have hn := owe_nodup (fun o ho => h.few o ho) (good_at hp) (ids_nodup hp)
      have hk := owns_keys (oweL s.1) [] (by simpa [keysW] using hn)
      simp only [keysW, List.map_nil, List.nil_append] at hk
      obtain ⟨es', a, b⟩ := waits_walk (X := ((Unit × Unit) × Sto × WM × Unit) ⊕ Bool) (oweL s.1) (fun es => .inl (((), ()), (s, (es, ())))) (.inr false) s.2.1 0 (ownsM [] (oweL s.1)) [] (fun k => by rw [owns_get, show gW [] k = 0 from rfl]; simp) hk
      rw [good_l3 s _ (by omega), b, Option.bind_some]
      unfold waitsB
      rw [show decide ((∀ w ∈ s.2.1, w ∈ oweL s.1 ∧ w ∉ ([] : List Wt)) ∧ s.2.1.Nodup) = decide ((∀ w ∈ s.2.1, w ∈ oweL s.1) ∧ s.2.1.Nodup) from decide_eq_decide.2 (by simp)]
      cases decide ((∀ w ∈ s.2.1, w ∈ oweL s.1) ∧ s.2.1.Nodup) with
      | false => rfl
      | true =>
        simp only [cond_true, Bool.true_and]
        have : es'.length = (oweL s.1).length := by rw [← a]; unfold keysW; rw [List.length_map]
        show some (((s.2.1.length : Int)) == (es'.length : Int)) = _
        rw [this]
        congr 1
        rw [Bool.eq_iff_iff]; simp; omega
  · rw [dec_t (show (s.1.length : Int) > 32 by omega), dec_f c]; rfl
end Go.Proofs.Pure

/- Which stores may be: the document's way. What is found, copied, the same. -/
namespace Go.Proofs.Pure
open Go.Proofs.D Go.Proofs.F

def findS (s : Sto) (id : Int) : Ord × Bool := match atS s.1 id with | some k => (s.1.getD k ord0, true) | none => (ord0, false)
theorem getD_at {os : List Ord} {k : Nat} (h : k < os.length) : os[k]? = some (os.getD k ord0) := by
  rw [List.getD_eq_getElem?_getD, List.getElem?_eq_getElem h]; rfl
theorem at_lt {os : List Ord} {id : Int} {k : Nat} (h : atS os id = some k) : k < os.length := ix_lt h
theorem at_id {os : List Ord} {id : Int} {k : Nat} (h : atS os id = some k) : (os.getD k ord0).1 = id := by
  obtain ⟨⟨x, hx, hp⟩, _⟩ := ix_iff.1 h
  rw [getD_at (at_lt h)] at hx
  cases hx
  simpa [isId] using hp
theorem refFind_val (s : Sto) (id : Int) (h : FewS s) : pledgeref24_Find s id = some ((findS s id).1, ((findS s id).2, ())) := by
  have hl := h.len
  unfold pledgeref24_Find findS
  rw [refat_val s id (by omega), Option.bind_some, ixI_neg]
  cases q : atS s.1 id with
  | none => rfl
  | some k =>
    simp only [Option.isNone_some, cond_false]
    show nthK s.1 (k : Int) _ = _
    rw [nthK_get (getD_at (at_lt q))]
theorem copyO_val {x : Ord} (h : FewO x) : order_Copy x = some ((x.1, (x.2.1, ((), ((), ((), ((), x.2.2.2.2.2.2)))))), (x.2.2.1, (x.2.2.2.1, (x.2.2.2.2.1, (x.2.2.2.2.2.1, ()))))) :=
  copy_val x (by have := h.lines; omega) (by have := h.held; omega) (by have := h.sent; omega) (by have := h.owes; omega)
theorem find_val (s : Sto) (id : Int) (h : FewS s) : store_Find s id = some ((findS s id).1, ((findS s id).2, ())) := by
  have hl := h.len
  unfold store_Find findS
  rw [at_val s id (by omega), Option.bind_some, ixI_neg]
  cases q : atS s.1 id with
  | none => rfl
  | some k =>
    have hf := h.few _ (List.mem_of_getElem? (getD_at (at_lt q)))
    simp only [Option.isNone_some, cond_false]
    show nthK s.1 (k : Int) _ = _
    rw [nthK_get (getD_at (at_lt q)), copyO_val hf, Option.bind_some]

theorem copyS_val (s : Sto) (h : FewS s) : store_Copy s = some (((), ((), ())), s) := by
  have hl := h.len; have hw := h.waits
  unfold store_Copy
  have := loop_walk (step := store_Copy.l1) s.1 (fun i (acc : List Ord) => (((), ((), ((), (s.1, ((s.1.length : Int), (i : Int)))))), (s, (((), ((), ())), (acc, ()))))) (fun _ o acc => .inl (acc ++ [o])) (fun acc => (((), ((), ())), (s, (((), ((), ())), (acc, ()))))) (fun i acc => acc.length ≤ i) [] (by omega) (Nat.le_refl _) (fun i o acc hx hi => by
    have hi2 := get_lt hx
    refine ⟨?_, fun _ q => by cases q; simp; exact hi⟩
    unfold store_Copy.l1
    simp only [dec_t (show (i : Int) < (s.1.length : Int) by omega), cond_true]
    rw [nthK_get hx, copyO_val (h.few o (get_mem hx)), Option.bind_some]
    simp only []
    rw [room_ok (by simp; omega), succ_i64 (by omega)]) (fun acc _ => by
    unfold store_Copy.l1
    simp only [dec_f (show ¬ (s.1.length : Int) < (s.1.length : Int) by omega), cond_false])
  rw [show (((0 : Nat) : Int)) = 0 from rfl, walk_gather (fun o : Ord => [o])] at this
  rw [this, Option.bind_some]
  have e : s.1.flatMap (fun o : Ord => [o]) = s.1 := by
    generalize s.1 = os
    induction os with
    | nil => rfl
    | cons o os ih => rw [List.flatMap_cons, ih]; rfl
  simp only []
  rw [cloneW_val s.2.1 (by omega), Option.bind_some, List.nil_append, e]

/-! ### The document's way -/
def okW (os : List Ord) (w : Wt) : Bool := match atS os w.1 with | some k => decide (1 ≤ firstOf w.2.1 (os.getD k ord0).2.2.2.2.2.1) | none => false
def nOwes (os : List Ord) (n : Int) : Int := os.foldl (fun n o => n + (o.2.2.2.2.2.1.length : Int)) n
theorem nOwes_eq : ∀ (os : List Ord) (n : Int), nOwes os n = n + ((oweL os).length : Int)
  | [], n => by show n = n + 0; omega
  | o :: os, n => by
    show nOwes os (n + (o.2.2.2.2.2.1.length : Int)) = _
    rw [nOwes_eq os]
    show _ = n + ((oweO o ++ oweL os).length : Int)
    rw [List.length_append]
    unfold oweO
    rw [List.length_map]; omega
theorem ref_l1 (s : Sto) (h : FewS s) : iterL pledgeref24_Good.l1 loopN (((), (0, 0)), (s, ())) = some (bif P1 s.1 then .inl (((), ((oweL s.1).length : Int)), (s, ())) else .inr false) := by
  have hl := h.len
  have := loop_walk (step := pledgeref24_Good.l1) s.1 (fun i (n : Int) => (((), (n, (i : Int))), (s, ()))) (X := ((Unit × Int) × Sto × Unit) ⊕ Bool) (fun i o n => bif goodO o && (ixI (atS s.1 o.1) == (i : Int)) then .inl (n + (o.2.2.2.2.2.1.length : Int)) else .inr (.inr false)) (fun n => .inl (((), n), (s, ()))) (fun i n => 0 ≤ n ∧ n ≤ 100 * i) 0 (by omega) (by omega) (fun i o n hx hn => by
    have hi := get_lt hx
    have hf := h.few o (get_mem hx)
    have hfo := hf.owes
    constructor
    · unfold pledgeref24_Good.l1
      simp only [dec_t (show (i : Int) < (s.1.length : Int) by omega), cond_true]
      rw [nthK_get hx, ref22Good_val o hf, Option.bind_some]
      cases goodO o with
      | false => rfl
      | true =>
        simp only [Bool.not_true, cond_false, Bool.true_and]
        rw [nthK_get hx, refat_val s o.1 (by omega), Option.bind_some, show (ixI (atS s.1 o.1) != (i : Int)) = !(ixI (atS s.1 o.1) == (i : Int)) from rfl]
        cases ixI (atS s.1 o.1) == (i : Int) with
        | false => rfl
        | true =>
          simp only [Bool.not_true, cond_false, cond_true]
          rw [nthK_get hx, succ_i64 (by omega), wrap_i64 (by omega) (by omega)]
    · intro a ha
      cases q : goodO o && (ixI (atS s.1 o.1) == (i : Int)) with
      | false => rw [q] at ha; cases ha
      | true => rw [q] at ha; cases ha; omega) (fun es _ => by
    unfold pledgeref24_Good.l1
    simp only [dec_f (show ¬ (s.1.length : Int) < (s.1.length : Int) by omega), cond_false])
  rw [show (((0 : Nat) : Int)) = 0 from rfl, walk_allfold (fun i o => goodO o && (ixI (atS s.1 o.1) == (i : Int)))] at this
  rw [this]
  have e := nOwes_eq s.1 0
  rw [Int.zero_add] at e
  rw [← e]; rfl
theorem allI_true {α : Type} : ∀ (l : List α) (i : Nat), allI (fun _ _ => true) i l = true
  | [], _ => rfl
  | _ :: l, i => allI_true l (i + 1)
theorem ref_l3 (s : Sto) (n : Int) (i : Nat) (w : Wt) (hi : i ≤ s.2.1.length) (hl : s.2.1.length < 100000) :
    iterL pledgeref24_Good.l3 loopN (((), (n, ((i : Int), ((), 0)))), (s, (w, ()))) = some (bif decide (w ∈ s.2.1.take i) then .inr false else .inl (((), (n, (i : Int))), (s, ()))) := by
  have hlt : (s.2.1.take i).length = i := by rw [List.length_take]; omega
  have := loop_walk (step := pledgeref24_Good.l3) (s.2.1.take i) (fun k (_ : Unit) => (((), (n, ((i : Int), ((), (k : Int))))), (s, (w, ())))) (X := ((Unit × Int × Int) × Sto × Unit) ⊕ Bool) (fun k (x : Wt) _ => bif isW w x then .inr (.inr false) else .inl ()) (fun _ => .inl (((), (n, (i : Int))), (s, ()))) (fun _ _ => True) () (by omega) trivial (fun k x _ hx _ => by
    have hk := get_lt hx
    rw [List.getElem?_take_of_lt (by omega)] at hx
    refine ⟨?_, fun _ _ => trivial⟩
    unfold pledgeref24_Good.l3
    simp only [dec_t (show (k : Int) < (i : Int) by omega), cond_true]
    rw [nthK_get hx, eqW_dec, decide_eq_decide.2 (@eq_comm _ x w)]
    unfold isW
    cases decide (w = x) with
    | true => rfl
    | false => simp only [cond_false]; rw [succ_i64 (by omega)]) (fun _ _ => by
    unfold pledgeref24_Good.l3
    rw [hlt]
    simp only [dec_f (show ¬ (i : Int) < (i : Int) by omega), cond_false])
  rw [show (((0 : Nat) : Int)) = 0 from rfl, walk_ix (isW w) (fun _ => Sum.inr false) (Sum.inl (((), (n, (i : Int))), (s, ())))] at this
  rw [this]
  by_cases hm : w ∈ s.2.1.take i
  · rw [dec_t hm]
    cases q : ixF (isW w) (s.2.1.take i) 0 with
    | none => exact absurd hm (isW_none.1 q)
    | some k => rfl
  · rw [dec_f hm, show ixF (isW w) (s.2.1.take i) 0 = none from isW_none.2 hm]; rfl
theorem okW_iff {os : List Ord} (hf : ∀ o ∈ os, FewO o) (h : P1 os = true) {w : Wt} : okW os w = true ↔ w ∈ oweL os := by
  rw [mem_owe]
  unfold okW
  constructor
  · intro q
    cases hk : atS os w.1 with
    | none => rw [hk] at q; cases q
    | some k =>
      rw [hk] at q
      have q : 1 ≤ firstOf w.2.1 (os.getD k ord0).2.2.2.2.2.1 := by simpa using q
      refine ⟨_, List.mem_of_getElem? (getD_at (at_lt hk)), at_id hk, ?_⟩
      refine Decidable.byContradiction fun t => ?_
      rw [first_zero t] at q; omega
  · rintro ⟨o, ho, e1, x, hx, e2⟩
    obtain ⟨k, hk, e⟩ := List.getElem_of_mem ho
    have h2 := (P1_iff.1 h) k o (by rw [← e]; exact List.getElem?_eq_getElem hk)
    rw [← e1, h2.2]
    have eo : os.getD k ord0 = o := by have := getD_at hk; rw [List.getElem?_eq_getElem hk, e] at this; cases this; rfl
    have hG := good_of (hf o ho) h2.1
    show decide (1 ≤ firstOf w.2.1 (os.getD k ord0).2.2.2.2.2.1) = true
    rw [eo, first_mem hG.owes x hx e2]
    refine dec_t ?_
    have : ∀ {l : List Ln} {lo : Int}, lnFrom lo l → ∀ x ∈ l, 1 ≤ x.2.1 := by
      intro l
      induction l with
      | nil => intro lo _ x hx; cases hx
      | cons y l ih =>
        intro lo ⟨_, _, h3, h4⟩ x hx
        rcases List.mem_cons.1 hx with e | e
        · rw [e]; exact h3
        · exact ih h4 x e
    exact this hG.owes x hx
theorem nodup_take {l : List Wt} : l.Nodup ↔ ∀ k w, l[k]? = some w → w ∉ l.take k := by
  rw [List.nodup_iff_pairwise_ne, List.pairwise_iff_getElem]
  constructor
  · intro h k w hw hm
    obtain ⟨hk, e⟩ := List.getElem?_eq_some_iff.1 hw
    obtain ⟨j, hj, e2⟩ := List.getElem_of_mem hm
    rw [List.length_take] at hj
    rw [List.getElem_take] at e2
    exact h j k (by omega) hk (by omega) (e2.trans e.symm)
  · intro h i j hi hj hij e
    refine h j l[j] (List.getElem?_eq_getElem hj) ?_
    rw [← e]
    exact List.mem_of_getElem? (i := i) (by rw [List.getElem?_take_of_lt hij, List.getElem?_eq_getElem hi])
theorem ref_l2 (s : Sto) (n : Int) (h : FewS s) (hp : P1 s.1 = true) : iterL pledgeref24_Good.l2 loopN (((), (n, 0)), (s, ())) = some (bif waitsB (oweL s.1) s.2.1 then .inl (((), n), (s, ())) else .inr false) := by
  have hl := h.len; have hw := h.waits
  have := loop_walk (step := pledgeref24_Good.l2) s.2.1 (fun i (_ : Unit) => (((), (n, (i : Int))), (s, ()))) (X := ((Unit × Int) × Sto × Unit) ⊕ Bool) (fun i w _ => bif okW s.1 w && !decide (w ∈ s.2.1.take i) then .inl () else .inr (.inr false)) (fun _ => .inl (((), n), (s, ()))) (fun _ _ => True) () (by omega) trivial (fun i w _ hx _ => by
    have hi := get_lt hx
    refine ⟨?_, fun _ _ => trivial⟩
    unfold pledgeref24_Good.l2
    simp only [dec_t (show (i : Int) < (s.2.1.length : Int) by omega), cond_true]
    rw [nthK_get hx, refFind_val s w.1 h, Option.bind_some]
    unfold okW findS
    cases hk : atS s.1 w.1 with
    | none => rfl
    | some k =>
      have hf := h.few _ (List.mem_of_getElem? (getD_at (at_lt hk)))
      have hfo := hf.owes
      simp only [Bool.not_true, cond_false]
      rw [refOwed_val _ _ (by omega), Option.bind_some]
      by_cases c : firstOf w.2.1 (s.1.getD k ord0).2.2.2.2.2.1 < 1
      · rw [dec_t c, dec_f (by omega)]; rfl
      · rw [dec_f c, dec_t (by omega)]
        simp only [cond_false, Bool.true_and]
        rw [ref_l3 s n i w (by omega) (by omega), Option.bind_some]
        cases decide (w ∈ s.2.1.take i) with
        | true => rfl
        | false => simp only [cond_false, Bool.not_false, cond_true]; rw [succ_i64 (by omega)]) (fun _ _ => by
    unfold pledgeref24_Good.l2
    simp only [dec_f (show ¬ (s.2.1.length : Int) < (s.2.1.length : Int) by omega), cond_false])
  rw [show (((0 : Nat) : Int)) = 0 from rfl, walk_allfold (fun i w => okW s.1 w && !decide (w ∈ s.2.1.take i)) (fun a _ => a)] at this
  rw [this]
  have e : allI (fun i w => okW s.1 w && !decide (w ∈ s.2.1.take i)) 0 s.2.1 = waitsB (oweL s.1) s.2.1 := by
    rw [Bool.eq_iff_iff]
    unfold waitsB
    rw [allI_iff, decide_eq_true_iff, nodup_take]
    constructor
    · intro q
      refine ⟨fun w hw => ?_, fun k w hw => ?_⟩
      · obtain ⟨k, hk, e⟩ := List.getElem_of_mem hw
        have := q k w (by rw [← e]; exact List.getElem?_eq_getElem hk)
        simp only [Bool.and_eq_true] at this
        exact (okW_iff h.few hp).1 this.1
      · have := q k w hw
        simp only [Bool.and_eq_true, Bool.not_eq_true', decide_eq_false_iff_not, Nat.zero_add] at this
        exact this.2
    · rintro ⟨q1, q2⟩ k w hw
      simp only [Bool.and_eq_true, Bool.not_eq_true', decide_eq_false_iff_not, Nat.zero_add]
      exact ⟨(okW_iff h.few hp).2 (q1 w (get_mem hw)), q2 k w hw⟩
  rw [e]
theorem refGood_val (s : Sto) (h : FewS s) : pledgeref24_Good s = some (goodS s) := by
  unfold pledgeref24_Good goodS
  by_cases c : s.1.length ≤ 32
  · rw [dec_f (show ¬ (s.1.length : Int) > 32 by omega), dec_t c]
    simp only [cond_false, Bool.true_and]
    rw [ref_l1 s h, Option.bind_some]
    cases hp : P1 s.1 with
    | false => rfl
    | true =>
      simp only [cond_true, Bool.true_and]
      rw [ref_l2 s _ h hp, Option.bind_some]
      cases waitsB (oweL s.1) s.2.1 with
      | false => rfl
      | true =>
        simp only [cond_true, Bool.true_and]
        congr 1
        rw [Bool.eq_iff_iff]; simp; omega
  · rw [dec_t (show (s.1.length : Int) > 32 by omega), dec_f c]; rfl

/-! ### The same -/
def sameS (a b : Sto) : Bool := (a.1.length == b.1.length) && (decide (a.2.1 = b.2.1) && allFrom (fun i => sameO (a.1.getD i ord0) (b.1.getD i ord0)) 0 a.1.length)
theorem sameO_len {o : Ord} (h : FewO o) : o.2.2.1.length < 1000 ∧ o.2.2.2.1.length < 1000 ∧ o.2.2.2.2.1.length < 1000 ∧ o.2.2.2.2.2.1.length < 1000 := by
  have := h.lines; have := h.held; have := h.sent; have := h.owes
  omega
theorem wt0_at {l : List Wt} {i : Nat} (h : i < l.length) : l[i]? = some (l.getD i (0, (0, ()))) := by
  rw [List.getD_eq_getElem?_getD, List.getElem?_eq_getElem h]; rfl
theorem allW (a b : List Wt) (h : a.length = b.length) : allFrom (fun i => decide (a.getD i (0, (0, ())) = b.getD i (0, (0, ())))) 0 a.length = decide (a = b) := by
  rw [Bool.eq_iff_iff, allFrom_iff, decide_eq_true_iff]
  constructor
  · intro q
    apply List.ext_getElem?
    intro i
    by_cases hi : i < a.length
    · have := q i (Nat.zero_le _) (by omega)
      rw [wt0_at hi, wt0_at (show i < b.length by omega)]
      exact congrArg some (by simpa using this)
    · rw [List.getElem?_eq_none (by omega), List.getElem?_eq_none (by omega)]
  · intro q i _ _
    rw [q]; simp
theorem ref23Same_val (a b : List Wt) (hl : a.length < 1000000) : pledgeref23_Same a b = some (decide (a = b)) := by
  unfold pledgeref23_Same
  by_cases h : a.length = b.length
  · rw [show (((a.length : Int) : Int) != (b.length : Int)) = false by rw [h]; simp]
    simp only [cond_false]
    have := loop_all (step := pledgeref23_Same.l1) (fun i => (a, (b, (i : Int)))) (fun i => decide (a.getD i (0, (0, ())) = b.getD i (0, (0, ())))) (.inl ()) (.inr false) a.length (by omega) (fun i hi => by
      unfold pledgeref23_Same.l1
      simp only [dec_t (show (i : Int) < (a.length : Int) by omega), cond_true]
      rw [nthK_get (wt0_at hi), nthK_get (wt0_at (show i < b.length by omega)), eqW_dec]
      cases decide (a.getD i (0, (0, ())) = b.getD i (0, (0, ()))) with
      | true => simp only [Bool.not_true, cond_false, cond_true]; rw [succ_i64 (by omega)]
      | false => rfl) (by
      unfold pledgeref23_Same.l1
      simp only [dec_f (show ¬ (a.length : Int) < (a.length : Int) by omega), cond_false])
    rw [show (((0 : Nat) : Int)) = 0 from rfl, allW a b h] at this
    rw [this, Option.bind_some]
    cases decide (a = b) <;> rfl
  · rw [show (((a.length : Int) : Int) != (b.length : Int)) = true by simp; omega]
    simp only [cond_true]
    rw [dec_f (fun q => h (by rw [q]))]
theorem equalW_val (a b : List Wt) (hl : a.length < 1000000) : slices_Equal_api_Wait_api_Wait a b = some (decide (a = b)) := by
  unfold slices_Equal_api_Wait_api_Wait
  by_cases h : a.length = b.length
  · rw [show (((a.length : Int) : Int) != (b.length : Int)) = false by rw [h]; simp]
    simp only [cond_false]
    have := loop_all (step := slices_Equal_api_Wait_api_Wait.l1) (fun i => (a, (b, ((a.length : Int), (i : Int))))) (fun i => decide (a.getD i (0, (0, ())) = b.getD i (0, (0, ())))) (.inl ()) (.inr false) a.length (by omega) (fun i hi => by
      unfold slices_Equal_api_Wait_api_Wait.l1
      simp only [dec_t (show (i : Int) < (a.length : Int) by omega), cond_true]
      rw [nthK_get (wt0_at hi), nthK_get (wt0_at (show i < b.length by omega)), eqW_dec]
      cases decide (a.getD i (0, (0, ())) = b.getD i (0, (0, ()))) with
      | true => simp only [Bool.not_true, cond_false, cond_true]; rw [succ_i64 (by omega)]
      | false => rfl) (by
      unfold slices_Equal_api_Wait_api_Wait.l1
      simp only [dec_f (show ¬ (a.length : Int) < (a.length : Int) by omega), cond_false])
    rw [show (((0 : Nat) : Int)) = 0 from rfl, allW a b h] at this
    rw [this, Option.bind_some]
    cases decide (a = b) <;> rfl
  · rw [show (((a.length : Int) : Int) != (b.length : Int)) = true by simp; omega]
    simp only [cond_true]
    rw [dec_f (fun q => h (by rw [q]))]
theorem refSameS_val (a b : Sto) (ha : FewS a) : pledgeref24_Same a b = some (sameS a b) := by
  have hl := ha.len; have hw := ha.waits
  unfold pledgeref24_Same sameS
  by_cases h : a.1.length = b.1.length
  · rw [show (((a.1.length : Int) : Int) != (b.1.length : Int)) = false by rw [h]; simp, show (a.1.length == b.1.length) = true by simp [h], ref23Same_val _ _ (by omega)]
    simp only [cond_false, Option.bind_some, Bool.true_and]
    cases decide (a.2.1 = b.2.1) with
    | false => rfl
    | true =>
      simp only [Bool.not_true, cond_false, Bool.true_and]
      have := loop_all (step := pledgeref24_Same.l1) (fun i => (((), ((), (i : Int))), (a, (b, ())))) (fun i => sameO (a.1.getD i ord0) (b.1.getD i ord0)) (.inl ()) (.inr false) a.1.length (by omega) (fun i hi => by
        have hx := getD_at hi
        obtain ⟨l1, l2, l3, l4⟩ := sameO_len (ha.few _ (get_mem hx))
        unfold pledgeref24_Same.l1
        simp only [dec_t (show (i : Int) < (a.1.length : Int) by omega), cond_true]
        rw [nthK_get hx, nthK_get (getD_at (show i < b.1.length by omega)), refsame_val _ _ l1 l2 l3 l4, Option.bind_some]
        cases sameO (a.1.getD i ord0) (b.1.getD i ord0) with
        | true => simp only [Bool.not_true, cond_false, cond_true]; rw [succ_i64 (by omega)]
        | false => rfl) (by
        unfold pledgeref24_Same.l1
        simp only [dec_f (show ¬ (a.1.length : Int) < (a.1.length : Int) by omega), cond_false])
      rw [show (((0 : Nat) : Int)) = 0 from rfl] at this
      rw [this, Option.bind_some]
      cases allFrom (fun i => sameO (a.1.getD i ord0) (b.1.getD i ord0)) 0 a.1.length <;> rfl
  · rw [show (((a.1.length : Int) : Int) != (b.1.length : Int)) = true by simp; omega, show (a.1.length == b.1.length) = false by simp [h]]; rfl
theorem storeSame_val (a b : Sto) (ha : FewS a) : store_Same a b = some (sameS a b) := by
  have hl := ha.len; have hw := ha.waits
  unfold store_Same slices_EqualFunc_api_Order_api_Order_api_Order_api_Order sameS
  by_cases h : a.1.length = b.1.length
  · rw [show (((a.1.length : Int) : Int) != (b.1.length : Int)) = false by rw [h]; simp, show (a.1.length == b.1.length) = true by simp [h]]
    simp only [cond_false, Bool.true_and]
    have := loop_all (step := slices_EqualFunc_api_Order_api_Order_api_Order_api_Order.l1) (fun i => (b.1, ((), (a.1, ((a.1.length : Int), (i : Int)))))) (fun i => sameO (a.1.getD i ord0) (b.1.getD i ord0)) (.inl ()) (.inr false) a.1.length (by omega) (fun i hi => by
      have hx := getD_at hi
      obtain ⟨l1, l2, l3, l4⟩ := sameO_len (ha.few _ (get_mem hx))
      unfold slices_EqualFunc_api_Order_api_Order_api_Order_api_Order.l1
      simp only [dec_t (show (i : Int) < (a.1.length : Int) by omega), cond_true]
      rw [nthK_get hx, nthK_get (getD_at (show i < b.1.length by omega)), same_val _ _ l1 l2 l3 l4, Option.bind_some]
      cases sameO (a.1.getD i ord0) (b.1.getD i ord0) with
      | true => simp only [Bool.not_true, cond_false, cond_true]; rw [succ_i64 (by omega)]
      | false => rfl) (by
      unfold slices_EqualFunc_api_Order_api_Order_api_Order_api_Order.l1
      simp only [dec_f (show ¬ (a.1.length : Int) < (a.1.length : Int) by omega), cond_false])
    rw [show (((0 : Nat) : Int)) = 0 from rfl] at this
    rw [this, Option.bind_some, equalW_val _ _ (by omega)]
    cases allFrom (fun i => sameO (a.1.getD i ord0) (b.1.getD i ord0)) 0 a.1.length <;> cases decide (a.2.1 = b.2.1) <;> rfl
  · rw [show (((a.1.length : Int) : Int) != (b.1.length : Int)) = true by simp; omega, show (a.1.length == b.1.length) = false by simp [h]]; rfl
theorem sameS_refl (s : Sto) : sameS s s = true := by
  unfold sameS
  simp only [beq_self_eq_true, decide_true, Bool.true_and]
  exact allFrom_iff.2 fun i _ _ => sameO_refl _
end Go.Proofs.Pure

/- Few things in a store. The chapter's example. -/
namespace Go.Proofs.Pure
open Go.Proofs.D Go.Proofs.F

theorem works24 : pledgelaw24_works = some true := by kernel_rfl

def fewB (o : Ord) : Bool := match pledgelaw22_Few o with | some n => !(n == 0) | none => false
theorem fewB_val (o : Ord) (h : WfE kOrder o) : pledgelaw22_Few o = some (bif fewB o then 1 else 0) ∧ (fewB o = true → FewO o ∧ o.2.2.2.1.length ≤ 30 ∧ o.2.2.2.2.1.length ≤ 30) := by
  unfold fewB
  rcases few22_val o h with e | ⟨e, a, b, c, d, _⟩
  · rw [e]; exact ⟨rfl, fun q => by cases q⟩
  · rw [e]; exact ⟨rfl, fun _ => ⟨a, c, d⟩⟩
structure SmallS (s : Sto) : Prop where
  fs : FewS s
  os : s.1.length ≤ 40
  ws : s.2.1.length ≤ 130
  small : ∀ o ∈ s.1, o.2.2.2.1.length ≤ 30 ∧ o.2.2.2.2.1.length ≤ 30
theorem few24_val (s : Sto) (h : WfE kStore s) : pledgelaw24_Few s = some 0 ∨ (pledgelaw24_Few s = some 1 ∧ SmallS s) := by
  have hwf : ∀ o ∈ s.1, WfE kOrder o := h.1.2
  unfold pledgelaw24_Few pledgelaw24_isFew
  by_cases c1 : (s.1.length : Int) > 40
  · rw [dec_t c1]; exact .inl rfl
  rw [dec_f c1]
  by_cases c2 : (s.2.1.length : Int) > 130
  · rw [dec_t c2]; exact .inl rfl
  rw [dec_f c2]
  simp only [cond_false]
  have := loop_walk (step := pledgelaw24_isFew.l1) s.1 (fun i (_ : Unit) => (((), (i : Int)), (s, ()))) (X := Unit ⊕ Bool) (fun _ o _ => bif fewB o then .inl () else .inr (.inr false)) (fun _ => .inl ()) (fun _ _ => True) () (by omega) trivial (fun i o _ hx _ => by
    have hi := get_lt hx
    refine ⟨?_, fun _ _ => trivial⟩
    unfold pledgelaw24_isFew.l1
    simp only [dec_t (show (i : Int) < (s.1.length : Int) by omega), cond_true]
    rw [nthK_get hx, (fewB_val o (hwf o (get_mem hx))).1, Option.bind_some]
    cases fewB o with
    | true => simp only [cond_true, show ((1 : Int) == 0) = false by decide, cond_false]; rw [succ_i64 (by omega)]
    | false => rfl) (fun _ _ => by
    unfold pledgelaw24_isFew.l1
    simp only [dec_f (show ¬ (s.1.length : Int) < (s.1.length : Int) by omega), cond_false])
  rw [show (((0 : Nat) : Int)) = 0 from rfl, walk_allfold (fun _ o => fewB o) (fun a _ => a)] at this
  rw [this, Option.bind_some]
  cases q : allI (fun _ o => fewB o) 0 s.1 with
  | false => exact .inl rfl
  | true =>
    have hall : ∀ o ∈ s.1, fewB o = true := fun o ho => by
      obtain ⟨k, hk, e⟩ := List.getElem_of_mem ho
      exact allI_iff.1 q k o (by rw [← e]; exact List.getElem?_eq_getElem hk)
    exact .inr ⟨rfl, ⟨⟨by omega, fun o ho => ((fewB_val o (hwf o ho)).2 (hall o ho)).1, by omega⟩, by omega, by omega, fun o ho => ((fewB_val o (hwf o ho)).2 (hall o ho)).2⟩⟩
end Go.Proofs.Pure

/- What comes fills: the program's way and the document's. -/
namespace Go.Proofs.Pure
open Go.Proofs.D Go.Proofs.F

theorem walk_proj {α A X Y : Type} (π : X → Y) {f' : Nat → α → A → A ⊕ X} {f : Nat → α → A → A ⊕ Y} {fin' : A → X} {fin : A → Y} (h : ∀ i x a, (∃ b, f' i x a = .inl b ∧ f i x a = .inl b) ∨ (∃ r, f' i x a = .inr r ∧ f i x a = .inr (π r))) (hf : ∀ a, π (fin' a) = fin a) :
    ∀ (l : List α) (i : Nat) (a : A), π (walkL f' fin' i l a) = walkL f fin i l a
  | [], i, a => hf a
  | x :: l, i, a => by
    rw [walkL, walkL]
    rcases h i x a with ⟨b, e1, e2⟩ | ⟨r, e1, e2⟩
    · rw [e1, e2]; exact walk_proj π h hf l (i + 1) b
    · rw [e1, e2]

theorem contains_val (l : List Int) (id : Int) (hl : l.length < 1000000) : slices_Contains_uint32_uint32 l id = some (decide (id ∈ l)) := by
  unfold slices_Contains_uint32_uint32 slices_Index_uint32_uint32
  have := loop_walk (step := slices_Index_uint32_uint32.l1) l (fun i (_ : Unit) => (l, (id, ((l.length : Int), (i : Int))))) (X := Unit ⊕ Int) (fun i x _ => bif decide (id = x) then .inr (.inr (i : Int)) else .inl ()) (fun _ => .inl ()) (fun _ _ => True) () (by omega) trivial (fun i x acc hx _ => by
    have hi := get_lt hx
    refine ⟨?_, fun _ _ => trivial⟩
    unfold slices_Index_uint32_uint32.l1
    simp only [dec_t (show (i : Int) < (l.length : Int) by omega), cond_true]
    rw [nthK_get hx, show ((id : Int) == x) = decide (id = x) from rfl]
    cases decide (id = x) with
    | true => rfl
    | false => simp only [cond_false]; rw [succ_i64 (by omega)]) (fun acc _ => by
    unfold slices_Index_uint32_uint32.l1
    simp only [dec_f (show ¬ (l.length : Int) < (l.length : Int) by omega), cond_false])
  rw [show (((0 : Nat) : Int)) = 0 from rfl, walk_ix (fun x => decide (id = x)) (fun k => Sum.inr (k : Int)) (Sum.inl ())] at this
  rw [this, Option.bind_some]
  cases h : ixF (fun x => decide (id = x)) l 0 with
  | none =>
    have hn : id ∉ l := fun q => by have := ixF_none.1 h id q; simp at this
    rw [dec_f hn]; rfl
  | some k =>
    have hm : id ∈ l := by
      have h' : ix (fun x => decide (id = x)) l = some k := h
      obtain ⟨⟨x, hx, hp⟩, _⟩ := ix_iff.1 h'
      have : id = x := by simpa using hp
      rw [this]; exact get_mem hx
    rw [dec_t hm, Option.bind_some]
    exact congrArg some (dec_t (by show (k : Int) ≥ 0; omega))
theorem refin_val (l : List Int) (id : Int) (hl : l.length < 1000000) : pledgeref24_in l id = some (decide (id ∈ l)) := by
  unfold pledgeref24_in
  have := loop_walk (step := pledgeref24_in.l1) l (fun i (_ : Unit) => (l, (id, (i : Int)))) (X := Unit ⊕ Bool) (fun i x _ => bif decide (id = x) then .inr (.inr true) else .inl ()) (fun _ => .inl ()) (fun _ _ => True) () (by omega) trivial (fun i x acc hx _ => by
    have hi := get_lt hx
    refine ⟨?_, fun _ _ => trivial⟩
    unfold pledgeref24_in.l1
    simp only [dec_t (show (i : Int) < (l.length : Int) by omega), cond_true]
    rw [nthK_get hx, show ((x : Int) == id) = decide (id = x) from decide_eq_decide.2 (@eq_comm _ x id)]
    cases decide (id = x) with
    | true => rfl
    | false => simp only [cond_false]; rw [succ_i64 (by omega)]) (fun acc _ => by
    unfold pledgeref24_in.l1
    simp only [dec_f (show ¬ (l.length : Int) < (l.length : Int) by omega), cond_false])
  rw [show (((0 : Nat) : Int)) = 0 from rfl, walk_ix (fun x => decide (id = x)) (fun _ => Sum.inr true) (Sum.inl ())] at this
  rw [this, Option.bind_some]
  cases h : ixF (fun x => decide (id = x)) l 0 with
  | none =>
    have hn : id ∉ l := fun q => by have := ixF_none.1 h id q; simp at this
    rw [dec_f hn]
  | some k =>
    have hm : id ∈ l := by
      have h' : ix (fun x => decide (id = x)) l = some k := h
      obtain ⟨⟨x, hx, hp⟩, _⟩ := ix_iff.1 h'
      have : id = x := by simpa using hp
      rw [this]; exact get_mem hx
    rw [dec_t hm]

def owedAt (s : Sto) (k : Nat) (sku : Int) : Int := firstOf sku (s.1.getD k ord0).2.2.2.2.2.1
def minI (q d : Int) : Int := if q < d then q else d
abbrev FAcc := Int × List Tk
def fillF (s : Sto) (sku ware : Int) (busy : List Int) (id : Int) (a : FAcc) : FAcc ⊕ List Tk :=
  match atS s.1 id with
  | none => .inr a.2
  | some k => bif decide (a.1 < 1) || (decide (12 ≤ a.2.length) || decide (id ∈ busy)) then .inr a.2 else
      .inl (IntKind.i64.wrap (a.1 - minI a.1 (owedAt s k sku)), a.2 ++ [(id, (sku, (ware, (minI a.1 (owedAt s k sku), ()))))])
def fillsW (s : Sto) (sku ware qty : Int) (busy ids : List Int) : List Tk := walkL (fun _ id a => fillF s sku ware busy id a) (fun a => a.2) 0 ids (qty, [])
def fillsS (s : Sto) (sku ware qty : Int) (busy : List Int) : List Tk := bif goodS s then fillsW s sku ware qty busy (ofW s.2.1 sku) else []
theorem fillF_out {s : Sto} {sku ware : Int} {busy : List Int} {id : Int} {a b : FAcc} (h : fillF s sku ware busy id a = .inl b) : b.2.length = a.2.length + 1 ∧ b.2.length ≤ 12 := by
  unfold fillF at h
  cases hk : atS s.1 id with
  | none => rw [hk] at h; cases h
  | some k =>
    rw [hk] at h
    by_cases c : a.2.length < 12
    · cases q : decide (a.1 < 1) || (decide (12 ≤ a.2.length) || decide (id ∈ busy)) with
      | true => simp only [q, cond_true] at h; cases h
      | false => simp only [q, cond_false] at h; cases h; simp; omega
    · rw [dec_t (show 12 ≤ a.2.length by omega)] at h; simp at h
theorem ofW_len (l : List Wt) (sku : Int) : (ofW l sku).length ≤ l.length := by
  unfold ofW
  induction l with
  | nil => simp
  | cons x l ih =>
    have : (ofG sku x).length ≤ 1 := by unfold ofG; cases x.2.1 == sku <;> simp
    rw [List.flatMap_cons, List.length_append, List.length_cons]; omega

theorem fills_val2 (s : Sto) (sku ware qty : Int) (busy : List Int) (h : FewS s) (hb : busy.length < 100000) : store_Fills s sku ware qty busy = some (fillsS s sku ware qty busy) := by
  have hl := h.len; have hw := h.waits
  unfold store_Fills fillsS
  rw [storeGood_val s h, Option.bind_some]
  cases goodS s with
  | false => rfl
  | true =>
    simp only [Bool.not_true, cond_false, cond_true]
    rw [of_val _ _ (by omega), Option.bind_some]
    have hol := ofW_len s.2.1 sku
    generalize ofW s.2.1 sku = ids at *
    have := loop_walk (step := store_Fills.l1) ids (fun i (a : FAcc) => ((sku, (ware, (a.1, (busy, ((), ((), (ids, ((ids.length : Int), (i : Int))))))))), (s, (a.2, ())))) (X := Unit × List Tk × Unit) (fun _ id a => match fillF s sku ware busy id a with | .inl b => .inl b | .inr r => .inr ((), (r, ()))) (fun a => ((), (a.2, ()))) (fun _ a => a.2.length ≤ 12) (qty, []) (by omega) (by simp) (fun i id a hx ha => by
      have hi := get_lt hx
      constructor
      · unfold store_Fills.l1 fillF
        simp only [dec_t (show (i : Int) < (ids.length : Int) by omega), cond_true]
        rw [nthK_get hx, at_val s id (by omega), Option.bind_some, ixI_neg]
        cases hk : atS s.1 id with
        | none => rfl
        | some k =>
          have hf := h.few _ (List.mem_of_getElem? (getD_at (at_lt hk)))
          have hfo := hf.owes
          simp only [Option.isNone_some, cond_false]
          by_cases c1 : a.1 < 1
          · rw [dec_t c1]; rfl
          rw [dec_f c1]
          by_cases c2 : 12 ≤ a.2.length
          · rw [dec_t (show (a.2.length : Int) ≥ 12 by omega), dec_t c2]; rfl
          rw [dec_f (show ¬ (a.2.length : Int) ≥ 12 by omega), dec_f c2, contains_val busy id (by omega), Option.bind_some]
          simp only [cond_false, Bool.false_or]
          cases decide (id ∈ busy) with
          | true => rfl
          | false =>
            simp only [cond_false]
            show nthK s.1 (k : Int) _ = _
            rw [nthK_get (getD_at (at_lt hk)), owed_val _ _ (by omega), Option.bind_some, room_ok (by simp; omega), succ_i64 (by omega)]
            rfl
      · intro b hb'
        cases q : fillF s sku ware busy id a with
        | inl c => rw [q] at hb'; cases hb'; exact (fillF_out q).2
        | inr r => rw [q] at hb'; cases hb') (fun a _ => by
      unfold store_Fills.l1
      simp only [dec_f (show ¬ (ids.length : Int) < (ids.length : Int) by omega), cond_false])
    rw [show (((0 : Nat) : Int)) = 0 from rfl] at this
    rw [this, Option.bind_some]
    have hp := walk_proj (fun r : Unit × List Tk × Unit => r.2.1) (f' := fun _ id a => match fillF s sku ware busy id a with | .inl b => .inl b | .inr r => .inr ((), (r, ()))) (f := fun _ id a => fillF s sku ware busy id a) (fin' := fun a : FAcc => ((), (a.2, ()))) (fin := fun a : FAcc => a.2) (fun i x a => by
      cases fillF s sku ware busy x a with
      | inl b => exact .inl ⟨b, rfl, rfl⟩
      | inr r => exact .inr ⟨_, rfl, rfl⟩) (fun a => rfl) ids 0 (qty, [])
    unfold fillsW
    rw [← hp]
theorem refFillsS_val (s : Sto) (sku ware qty : Int) (busy : List Int) (h : FewS s) (hb : busy.length < 100000) : pledgeref24_Fills s sku ware qty busy = some (fillsS s sku ware qty busy) := by
  have hl := h.len; have hw := h.waits
  unfold pledgeref24_Fills fillsS
  rw [refGood_val s h, Option.bind_some]
  cases goodS s with
  | false => rfl
  | true =>
    simp only [Bool.not_true, cond_false, cond_true]
    rw [refof_val _ _ (by omega), Option.bind_some]
    have hol := ofW_len s.2.1 sku
    generalize ofW s.2.1 sku = ids at *
    have := loop_walk (step := pledgeref24_Fills.l1) ids (fun i (a : FAcc) => ((sku, (ware, (a.1, (busy, ((), ((), (ids, (i : Int)))))))), (s, (a.2, ())))) (X := (Unit × List Tk × Unit) ⊕ (Unit × List Tk × Unit))
      (fun _ id a => bif decide (a.1 < 1) || decide (12 ≤ a.2.length) then .inr (.inl ((), (a.2, ()))) else match fillF s sku ware busy id a with | .inl b => .inl b | .inr r => .inr (.inr ((), (r, ())))) (fun a => .inl ((), (a.2, ()))) (fun _ a => a.2.length ≤ 12) (qty, []) (by omega) (by simp) (fun i id a hx ha => by
      have hi := get_lt hx
      constructor
      · unfold pledgeref24_Fills.l1 fillF
        simp only [dec_t (show (i : Int) < (ids.length : Int) by omega), cond_true]
        by_cases c1 : a.1 < 1
        · rw [dec_f (show ¬ a.1 ≥ 1 by omega), dec_t c1]; rfl
        rw [dec_t (show a.1 ≥ 1 by omega), dec_f c1]
        by_cases c2 : 12 ≤ a.2.length
        · rw [dec_f (show ¬ (a.2.length : Int) < 12 by omega), dec_t c2]; rfl
        rw [dec_t (show (a.2.length : Int) < 12 by omega), dec_f c2]
        simp only [cond_true, Bool.or_false, cond_false, Bool.false_or]
        rw [nthK_get hx, refFind_val s id h, Option.bind_some]
        unfold findS
        cases hk : atS s.1 id with
        | none => rfl
        | some k =>
          have hf := h.few _ (List.mem_of_getElem? (getD_at (at_lt hk)))
          have hfo := hf.owes
          simp only []
          rw [refOwed_val _ _ (by omega), Option.bind_some]
          simp only [Bool.not_true, cond_false]
          rw [nthK_get hx, refin_val busy id (by omega), Option.bind_some]
          cases decide (id ∈ busy) with
          | true => rfl
          | false =>
            simp only [cond_false]
            unfold minI owedAt
            by_cases c3 : a.1 < firstOf sku (s.1.getD k ord0).2.2.2.2.2.1
            · rw [dec_t (show firstOf sku (s.1.getD k ord0).2.2.2.2.2.1 > a.1 by omega), if_pos c3]
              simp only [cond_true]
              rw [nthK_get hx, room_ok (by simp; omega), succ_i64 (by omega)]
            · rw [dec_f (show ¬ firstOf sku (s.1.getD k ord0).2.2.2.2.2.1 > a.1 by omega), if_neg c3]
              simp only [cond_false]
              rw [nthK_get hx, room_ok (by simp; omega), succ_i64 (by omega)]
      · intro b hb'
        cases q0 : decide (a.1 < 1) || decide (12 ≤ a.2.length) with
        | true => simp only [q0, cond_true] at hb'; cases hb'
        | false =>
          simp only [q0, cond_false] at hb'
          cases q : fillF s sku ware busy id a with
          | inl c => rw [q] at hb'; cases hb'; exact (fillF_out q).2
          | inr r => rw [q] at hb'; cases hb') (fun a _ => by
      unfold pledgeref24_Fills.l1
      simp only [dec_f (show ¬ (ids.length : Int) < (ids.length : Int) by omega), cond_false])
    rw [show (((0 : Nat) : Int)) = 0 from rfl] at this
    rw [this, Option.bind_some]
    have hp := walk_proj (fun r : (Unit × List Tk × Unit) ⊕ (Unit × List Tk × Unit) => match r with | .inl y => y.2.1 | .inr y => y.2.1) (f' := fun _ id a => bif decide (a.1 < 1) || decide (12 ≤ a.2.length) then .inr (.inl ((), (a.2, ()))) else match fillF s sku ware busy id a with | .inl b => .inl b | .inr r => .inr (.inr ((), (r, ()))))
      (f := fun _ id a => match atS s.1 id with | none => .inr a.2 | some _ => fillF s sku ware busy id a) (fin' := fun a : FAcc => .inl ((), (a.2, ()))) (fin := fun a : FAcc => a.2) (fun i x a => by
      cases hk : atS s.1 x with
      | none =>
        cases q0 : decide (a.1 < 1) || decide (12 ≤ a.2.length) with
        | true => exact .inr ⟨_, rfl, rfl⟩
        | false => exact .inr ⟨.inr ((), (a.2, ())), by simp only [cond_false]; unfold fillF; rw [hk], rfl⟩
      | some k =>
        cases q0 : decide (a.1 < 1) || decide (12 ≤ a.2.length) with
        | true =>
          refine .inr ⟨_, rfl, ?_⟩
          unfold fillF
          rw [hk]
          simp only []
          rw [show (decide (a.1 < 1) || (decide (12 ≤ a.2.length) || decide (x ∈ busy))) = true by rw [← Bool.or_assoc, q0]; rfl]; rfl
        | false =>
          simp only [cond_false]
          cases fillF s sku ware busy x a with
          | inl b => exact .inl ⟨b, rfl, rfl⟩
          | inr r => exact .inr ⟨_, rfl, rfl⟩) (fun a => rfl) ids 0 (qty, [])
    have hsame : (fun (_ : Nat) id (a : FAcc) => (match atS s.1 id with | none => .inr a.2 | some _ => fillF s sku ware busy id a : FAcc ⊕ List Tk)) = fun _ id a => fillF s sku ware busy id a := by
      funext _ id a
      unfold fillF
      cases atS s.1 id <;> rfl
    rw [hsame] at hp
    unfold fillsW
    rw [← hp]
    generalize walkL _ _ 0 ids (qty, []) = r
    cases r <;> rfl
theorem fillsW_len (s : Sto) (sku ware : Int) (busy : List Int) : ∀ (ids : List Int) (i : Nat) (a : FAcc), a.2.length ≤ 12 → (walkL (fun _ id a => fillF s sku ware busy id a) (fun a => a.2) i ids a).length ≤ 12
  | [], _, a, h => h
  | id :: ids, i, a, h => by
    rw [walkL]
    cases q : fillF s sku ware busy id a with
    | inl b => exact fillsW_len s sku ware busy ids (i + 1) b (fillF_out q).2
    | inr r =>
      have : r = a.2 := by
        unfold fillF at q
        cases hk : atS s.1 id with
        | none => rw [hk] at q; cases q; rfl
        | some k =>
          rw [hk] at q
          cases t : decide (a.1 < 1) || (decide (12 ≤ a.2.length) || decide (id ∈ busy)) with
          | true => simp only [t, cond_true] at q; cases q; rfl
          | false => simp only [t, cond_false] at q; cases q
      rw [this]; exact h
theorem fillsS_len (s : Sto) (sku ware qty : Int) (busy : List Int) : (fillsS s sku ware qty busy).length ≤ 12 := by
  unfold fillsS
  cases goodS s with
  | false => simp
  | true => exact fillsW_len s sku ware busy _ 0 (qty, []) (by simp)

end Go.Proofs.Pure
