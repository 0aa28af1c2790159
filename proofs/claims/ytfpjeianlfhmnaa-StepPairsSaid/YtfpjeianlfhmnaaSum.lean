/- What calc.Sum answers. -/
import Derived.Test.YtfpjeianlfhmnaaFnOps
import Derived.Test.YtfpjeianlfhmnaaPLib
set_option linter.unusedVariables false
namespace Go.Proofs.Pure
open Go.Proofs.D Go.Proofs.F

def total : List Int → Int | [] => 0 | x :: l => x + total l
theorem total_append : ∀ (a b : List Int), total (a ++ b) = total a + total b
  | [], b => by simp [total]
  | x :: a, b => by simp only [List.cons_append, total, total_append a b]; omega

theorem wrap_u64 (n : Int) : IntKind.u64.wrap n = n % 18446744073709551616 := by
  simp only [IntKind.wrap, IntKind.bits, IntKind.signed, Bool.false_and, Bool.false_eq_true, if_false, show (2 : Int) ^ 64 = 18446744073709551616 by decide]

theorem add64_val {a b c : Int} (ha : 0 ≤ a) (hb : 0 ≤ b) (hc : c = 0 ∨ c = 1) : add64 a b c = some ((a + b + c) % 18446744073709551616, ((a + b + c) / 18446744073709551616, ())) := by
  obtain ⟨a, rfl⟩ := Int.eq_ofNat_of_zero_le ha
  obtain ⟨b, rfl⟩ := Int.eq_ofNat_of_zero_le hb
  rcases hc with e | e <;> subst e <;> rfl

theorem fdiv63 {e : Int} (h1 : -9223372036854775808 ≤ e) (h2 : e < 9223372036854775808) : Int.fdiv e (2 ^ 63) = if e < 0 then -1 else 0 := by
  rw [show (2 : Int) ^ 63 = 9223372036854775808 by decide, Int.fdiv_eq_ediv_of_nonneg _ (by omega)]
  split <;> omega

/-- One number more, in two halves. -/
theorem sum_step {s e : Int} (h1 : -9223372036854775808 ≤ e) (h2 : e < 9223372036854775808) :
    ((s % 18446744073709551616 + e % 18446744073709551616 + 0) % 18446744073709551616 = (s + e) % 18446744073709551616) ∧
    (((s / 18446744073709551616) % 18446744073709551616 + (if e < 0 then -1 else 0) % 18446744073709551616 + (s % 18446744073709551616 + e % 18446744073709551616 + 0) / 18446744073709551616) % 18446744073709551616 = ((s + e) / 18446744073709551616) % 18446744073709551616) ∧
    ((s % 18446744073709551616 + e % 18446744073709551616 + 0) / 18446744073709551616 = 0 ∨ (s % 18446744073709551616 + e % 18446744073709551616 + 0) / 18446744073709551616 = 1) := by
  split <;> omega

theorem sum_loop (l : List Int) (hl : l.length < 9223372036854775807) (hx : ∀ x ∈ l, -9223372036854775808 ≤ x ∧ x < 9223372036854775808) : ∀ (k j : Nat), j + k = l.length →
    iterL calc_Sum.l1 (k + 1) ((total (l.take j) / 18446744073709551616) % 18446744073709551616, (total (l.take j) % 18446744073709551616, (l, ((l.length : Int), (j : Int))))) =
      some ((total l / 18446744073709551616) % 18446744073709551616, total l % 18446744073709551616)
  | 0, j, h => by
    have e : l.take j = l := List.take_of_length_le (by omega)
    rw [e]
    refine iterL_done ?_
    unfold calc_Sum.l1
    simp only [dec_f (show ¬ (j : Int) < (l.length : Int) by omega), cond_false]
  | k + 1, j, h => by
    have hj : j < l.length := by omega
    have hget : l[j]? = some l[j] := List.getElem?_eq_getElem hj
    obtain ⟨b1, b2⟩ := hx l[j] (List.getElem_mem hj)
    have htake : total (l.take (j + 1)) = total (l.take j) + l[j] := by
      rw [List.take_add_one, hget, total_append]; simp [total]
    obtain ⟨s1, s2, s3⟩ := sum_step (s := total (l.take j)) b1 b2
    have hstep : calc_Sum.l1 ((total (l.take j) / 18446744073709551616) % 18446744073709551616, (total (l.take j) % 18446744073709551616, (l, ((l.length : Int), (j : Int))))) =
        some (.inl ((total (l.take (j + 1)) / 18446744073709551616) % 18446744073709551616, (total (l.take (j + 1)) % 18446744073709551616, (l, ((l.length : Int), ((j + 1 : Nat) : Int)))))) := by
      unfold calc_Sum.l1
      simp only [dec_t (show (j : Int) < (l.length : Int) by omega), cond_true]
      rw [nthK_get hget, fdiv63 b1 b2, wrap_u64, wrap_u64, add64_val (by omega) (by omega) (.inl rfl), Option.bind_some]
      simp only []
      rw [add64_val (by omega) (by omega) s3, Option.bind_some, succ_i64 (by omega), s1, s2, htake]
    rw [iterL_next hstep]
    exact sum_loop l hl hx k (j + 1) (by omega)

/-- All numbers together, if that fits. -/
theorem sum_val (l : List Int) (hl : l.length < 4611686018427387904) (hx : ∀ x ∈ l, -9223372036854775808 ≤ x ∧ x < 9223372036854775808) (h1 : -9223372036854775808 ≤ total l) (h2 : total l < 9223372036854775808) : calc_Sum l = some (total l, (true, ())) := by
  unfold calc_Sum
  have := iterL_mono (sum_loop l (by omega) hx l.length 0 (by omega)) (m := loopN) (by rw [loopN_eq]; omega)
  simp only [List.take_zero, total, show (0 : Int) / 18446744073709551616 % 18446744073709551616 = 0 by decide, show (0 : Int) % 18446744073709551616 = 0 by decide] at this
  rw [show (((0 : Nat) : Int)) = 0 from rfl] at this
  rw [this, Option.bind_some]
  have hw : IntKind.i64.wrap (total l % 18446744073709551616) = total l := by
    unfold IntKind.wrap
    simp only [IntKind.bits, IntKind.signed, Bool.true_and, decide_eq_true_eq, show (2 : Int) ^ 64 = 18446744073709551616 by decide, show (2 : Int) ^ (64 - 1) = 9223372036854775808 by decide]
    split <;> omega
  simp only [hw]
  rw [fdiv63 h1 h2, wrap_u64]
  have : (((if total l < 0 then -1 else 0 : Int) % 18446744073709551616 : Int) == total l / 18446744073709551616 % 18446744073709551616) = true := by
    rw [beq_iff_eq]
    split <;> omega
  rw [this]
  rfl

theorem total_bound : ∀ (l : List Int), (∀ x ∈ l, -9223372036854775808 ≤ x ∧ x < 9223372036854775808) → -9223372036854775808 * (l.length : Int) ≤ total l ∧ total l ≤ 9223372036854775808 * (l.length : Int)
  | [], _ => by simp [total]
  | x :: l, h => by
    have h1 := h x List.mem_cons_self
    have h2 := total_bound l fun y hy => h y (List.mem_cons_of_mem _ hy)
    simp only [total, List.length_cons, Int.natCast_add, Int.natCast_one]
    omega

def fitsI (n : Int) : Bool := decide (-9223372036854775808 ≤ n) && decide (n < 9223372036854775808)
/-- All numbers together, or that they do not fit. -/
def sumOf (l : List Int) : Int × Bool × Unit := if fitsI (total l) = true then (total l, (true, ())) else (0, (false, ()))

theorem sum_all (l : List Int) (hl : l.length < 1000000) (hx : ∀ x ∈ l, -9223372036854775808 ≤ x ∧ x < 9223372036854775808) : calc_Sum l = some (sumOf l) := by
  by_cases hf : fitsI (total l) = true
  · have h := hf
    unfold fitsI at h
    simp only [Bool.and_eq_true, decide_eq_true_eq] at h
    unfold sumOf
    rw [if_pos hf]
    exact sum_val l (by omega) hx h.1 h.2
  · unfold sumOf
    rw [if_neg hf]
    have hb := total_bound l hx
    have hlen : (l.length : Int) < 1000000 := by omega
    unfold calc_Sum
    have := iterL_mono (sum_loop l (by omega) hx l.length 0 (by omega)) (m := loopN) (by rw [loopN_eq]; omega)
    simp only [List.take_zero, total, show (0 : Int) / 18446744073709551616 % 18446744073709551616 = 0 by decide, show (0 : Int) % 18446744073709551616 = 0 by decide] at this
    rw [show (((0 : Nat) : Int)) = 0 from rfl] at this
    rw [this, Option.bind_some]
    have hnf : ¬ (-9223372036854775808 ≤ total l ∧ total l < 9223372036854775808) := fun q => hf (by unfold fitsI; simp [q.1, q.2])
    generalize hw : IntKind.i64.wrap (total l % 18446744073709551616) = r
    have hr : -9223372036854775808 ≤ r ∧ r < 9223372036854775808 ∧ ((r = total l % 18446744073709551616 ∧ total l % 18446744073709551616 < 9223372036854775808) ∨ (r = total l % 18446744073709551616 - 18446744073709551616 ∧ 9223372036854775808 ≤ total l % 18446744073709551616)) := by
      rw [← hw]
      unfold IntKind.wrap
      simp only [IntKind.bits, IntKind.signed, Bool.true_and, decide_eq_true_eq, show (2 : Int) ^ 64 = 18446744073709551616 by decide, show (2 : Int) ^ (64 - 1) = 9223372036854775808 by decide]
      split <;> omega
    rw [fdiv63 hr.1 hr.2.1, wrap_u64]
    have : (((if r < 0 then -1 else 0 : Int) % 18446744073709551616 : Int) == total l / 18446744073709551616 % 18446744073709551616) = false := by
      rw [beq_eq_false_iff_ne]
      split <;> omega
    rw [this]
    rfl
end Go.Proofs.Pure
