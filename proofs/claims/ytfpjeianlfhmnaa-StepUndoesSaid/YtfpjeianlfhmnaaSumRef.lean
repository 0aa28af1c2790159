/- What the reference's sum answers: the same. -/
import Derived.Test.YtfpjeianlfhmnaaSum
set_option linter.unusedVariables false
namespace Go.Proofs.Pure
open Go.Proofs.D Go.Proofs.F

theorem halves_val {a : Int} (h1 : -9223372036854775808 ≤ a) (h2 : a < 9223372036854775808) : pledgeref01_halves a = some (a / 4294967296, (a % 4294967296, ())) := by
  unfold pledgeref01_halves pledgeref01_halves_v2
  by_cases h : a < 0
  · rw [dec_t h]
    have e1 : IntKind.i64.wrap (a + 1) = a + 1 := wrap_i64 (by omega) (by omega)
    have e2 : IntKind.i64.wrap (0 - (a + 1)) = -(a + 1) := by rw [wrap_i64 (by omega) (by omega)]; omega
    simp only [cond_true, e1, e2]
    rw [dec_f (by omega : ¬ -(a + 1) < 0)]
    simp only [cond_false, Option.bind_some]
    have e3 : Int.tdiv (-(a + 1)) 4294967296 = -(a + 1) / 4294967296 := Int.tdiv_eq_ediv_of_nonneg (by omega)
    have e4 : Int.tmod (-(a + 1)) 4294967296 = -(a + 1) % 4294967296 := Int.tmod_eq_emod_of_nonneg (by omega)
    have w1 : IntKind.i64.wrap (-(a + 1) / 4294967296) = -(a + 1) / 4294967296 := wrap_i64 (by omega) (by omega)
    have w2 : IntKind.i64.wrap (-1 - -(a + 1) / 4294967296) = -1 - -(a + 1) / 4294967296 := wrap_i64 (by omega) (by omega)
    have w3 : IntKind.i64.wrap (4294967295 - -(a + 1) % 4294967296) = 4294967295 - -(a + 1) % 4294967296 := wrap_i64 (by omega) (by omega)
    simp only [e3, e4, w1, w2, w3]
    have g1 : -1 - -(a + 1) / 4294967296 = a / 4294967296 := by omega
    have g2 : 4294967295 - -(a + 1) % 4294967296 = a % 4294967296 := by omega
    rw [g1, g2]
  · rw [dec_f h]
    have e3 : Int.tdiv a 4294967296 = a / 4294967296 := Int.tdiv_eq_ediv_of_nonneg (by omega)
    have e4 : Int.tmod a 4294967296 = a % 4294967296 := Int.tmod_eq_emod_of_nonneg (by omega)
    simp only [cond_false, e3, e4]
    rw [wrap_i64 (by omega) (by omega)]

theorem total_take (l : List Int) {j : Nat} (hj : j < l.length) : total (l.take (j + 1)) = total (l.take j) + l[j] := by
  rw [List.take_add_one, List.getElem?_eq_getElem hj, total_append]; simp [total]

theorem refsum_loop (l : List Int) (hl : l.length < 1000000) (hx : ∀ x ∈ l, -9223372036854775808 ≤ x ∧ x < 9223372036854775808) : ∀ (k j : Nat), j + k = l.length →
    iterL pledgeref01_Sum.l1 (k + 1) ((l, ((), (j : Int))), ((total (l.take j) / 4294967296, (total (l.take j) % 4294967296, ())), ())) = some ((), ((total l / 4294967296, (total l % 4294967296, ())), ()))
  | 0, j, h => by
    have e : l.take j = l := List.take_of_length_le (by omega)
    rw [e]
    refine iterL_done ?_
    unfold pledgeref01_Sum.l1
    simp only [dec_f (show ¬ (j : Int) < (l.length : Int) by omega), cond_false]
  | k + 1, j, h => by
    have hj : j < l.length := by omega
    have hget : l[j]? = some l[j] := List.getElem?_eq_getElem hj
    obtain ⟨b1, b2⟩ := hx l[j] (List.getElem_mem hj)
    have htake := total_take l hj
    have hb := total_bound (l.take j) fun x hx' => hx x (List.mem_of_mem_take hx')
    have hlen : ((l.take j).length : Int) < 1000000 := by rw [List.length_take]; omega
    generalize hT : total (l.take j) = t at hb htake
    have hstep : pledgeref01_Sum.l1 ((l, ((), (j : Int))), ((t / 4294967296, (t % 4294967296, ())), ())) = some (.inl ((l, ((), ((j + 1 : Nat) : Int))), ((total (l.take (j + 1)) / 4294967296, (total (l.take (j + 1)) % 4294967296, ())), ()))) := by
      unfold pledgeref01_Sum.l1
      simp only [dec_t (show (j : Int) < (l.length : Int) by omega), cond_true]
      rw [nthK_get hget, halves_val b1 b2, Option.bind_some, succ_i64 (by omega), htake]
      have e1 : IntKind.i64.wrap (t % 4294967296 + l[j] % 4294967296) = t % 4294967296 + l[j] % 4294967296 := wrap_i64 (by omega) (by omega)
      have e2 : IntKind.i64.wrap (t / 4294967296 + l[j] / 4294967296) = t / 4294967296 + l[j] / 4294967296 := wrap_i64 (by omega) (by omega)
      simp only [e1, e2]
      by_cases q : t % 4294967296 + l[j] % 4294967296 ≥ 4294967296
      · rw [dec_t q]
        simp only [cond_true]
        rw [wrap_i64 (n := t / 4294967296 + l[j] / 4294967296 + 1) (by omega) (by omega), wrap_i64 (n := t % 4294967296 + l[j] % 4294967296 - 4294967296) (by omega) (by omega)]
        rw [show t / 4294967296 + l[j] / 4294967296 + 1 = (t + l[j]) / 4294967296 by omega, show t % 4294967296 + l[j] % 4294967296 - 4294967296 = (t + l[j]) % 4294967296 by omega]
      · rw [dec_f q]
        simp only [cond_false]
        rw [show t / 4294967296 + l[j] / 4294967296 = (t + l[j]) / 4294967296 by omega, show t % 4294967296 + l[j] % 4294967296 = (t + l[j]) % 4294967296 by omega]
    rw [iterL_next hstep]
    exact refsum_loop l hl hx k (j + 1) (by omega)

theorem refsum_all (l : List Int) (hl : l.length < 1000000) (hx : ∀ x ∈ l, -9223372036854775808 ≤ x ∧ x < 9223372036854775808) : pledgeref01_Sum l = some (sumOf l) := by
  unfold pledgeref01_Sum sumOf fitsI
  have := iterL_mono (refsum_loop l hl hx l.length 0 (by omega)) (m := loopN) (by rw [loopN_eq]; omega)
  simp only [List.take_zero, total, show (0 : Int) / 4294967296 = 0 by decide, show (0 : Int) % 4294967296 = 0 by decide] at this
  rw [show (((0 : Nat) : Int)) = 0 from rfl] at this
  rw [this, Option.bind_some]
  have hb := total_bound l hx
  have hlen : (l.length : Int) < 1000000 := by omega
  simp only []
  by_cases h1 : total l / 4294967296 < -2147483648
  · rw [dec_t h1, dec_f (by omega : ¬ -9223372036854775808 ≤ total l)]; rfl
  · rw [dec_f h1]
    by_cases h2 : total l / 4294967296 > 2147483647
    · rw [dec_t h2, dec_f (by omega : ¬ total l < 9223372036854775808), Bool.and_false]; rfl
    · rw [dec_f h2, dec_t (by omega : -9223372036854775808 ≤ total l), dec_t (by omega : total l < 9223372036854775808)]
      simp only [cond_false, Bool.and_true, if_true]
      rw [wrap_i64 (n := total l / 4294967296 * 4294967296) (by omega) (by omega), wrap_i64 (by omega) (by omega), show total l / 4294967296 * 4294967296 + total l % 4294967296 = total l by omega]
end Go.Proofs.Pure
