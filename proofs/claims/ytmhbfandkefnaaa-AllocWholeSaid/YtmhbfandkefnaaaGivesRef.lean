/- What the document's splitting gives: the same. -/
import Derived.Test.YtmhbfandkefnaaaGives
set_option linter.unusedVariables false
namespace Go.Proofs.Pure
open Go.Proofs.D Go.Proofs.F

theorem ref_loop (c : Int × Int × List ((Int × Int × Int × Unit) × Int × Int × Int × Unit) × List (List Int) × Int × Int × Int × Int × Int × Int × Int × Unit) (i : Nat) (hi : i < 4) (R : List Int) (row : List Int) (hrow : c.2.2.2.1[i]? = some row) (hw : c.2.1 = (R.length : Int)) (hRr : ∀ j, j < R.length → row[j]? = R[j]?)
    (hR : ∀ e ∈ R, 0 ≤ e ∧ e < 4) (free g0 : List Int) (hf : free.length = 4) (hlen : R.length ≤ 4) : ∀ (k j : Nat), j + k = R.length → ∀ (left : Int) (got : List Int), got.length = 4 → 0 ≤ left → left < 9223372036854775808 →
    iterL pledgeref33_Split.l1 (k + 1) (((i : Int), (left, ((), ((), ((), ((), (j : Int))))))), (c, (free, (g0, (got, ()))))) = some (((runS (R.drop j) left free got).1, ((), ())), (g0, ((runS (R.drop j) left free got).2, ())))
  | 0, j, hj, left, got, hg, h1, h2 => by
    have hd : R.drop j = [] := by rw [List.drop_eq_nil_iff]; omega
    rw [hd]
    refine iterL_done ?_
    unfold pledgeref33_Split.l1
    have : decide ((j : Int) < c.2.1) = false := by rw [hw]; simp; omega
    simp only [this, cond_false]
    rfl
  | k + 1, j, hj, left, got, hg, h1, h2 => by
    have hlt : j < R.length := by omega
    have he : R[j]? = some R[j] := List.getElem?_eq_getElem hlt
    obtain ⟨b1, b2⟩ := hR R[j] (List.getElem_mem hlt)
    obtain ⟨e, hen⟩ : ∃ e : Nat, R[j] = (e : Int) := Int.eq_ofNat_of_zero_le b1
    rw [hen] at he b1 b2
    have hd : R.drop j = (e : Int) :: R.drop (j + 1) := by rw [List.drop_eq_getElem_cons hlt, hen]
    rw [hd]
    have he4 : e < 4 := by omega
    have hgv := give_le (f := free.getD e 0) h1
    have hstep : pledgeref33_Split.l1 (((i : Int), (left, ((), ((), ((), ((), (j : Int))))))), (c, (free, (g0, (got, ()))))) =
        some (.inl (((i : Int), (left - give left (free.getD e 0), ((), ((), ((), ((), ((j + 1 : Nat) : Int))))))), (c, (free, (g0, (got.set e (give left (free.getD e 0)), ())))))) := by
      unfold pledgeref33_Split.l1
      have c1 : decide ((j : Int) < c.2.1) = true := by rw [hw]; simp; omega
      have c2 : (decide (0 ≤ (i : Int)) && decide ((i : Int) < 4)) = true := by simp; omega
      have c3 : (decide (0 ≤ (j : Int)) && decide ((j : Int) < 4)) = true := by simp; omega
      have c4 : (decide (0 ≤ (e : Int)) && decide ((e : Int) < 4)) = true := by simp; omega
      have we : IntKind.i64.wrap (e : Int) = (e : Int) := wrap_i64 (by omega) (by omega)
      have f1 := got4 hf he4
      have f2 := got4 hg he4
      simp only [c1, cond_true]
      rw [chk_true c2, chk_true c3, nthK_get hrow, nthK_get ((hRr j hlt).trans he)]
      simp only [we]
      rw [chk_true c4, nthK_get f1]
      have g3 : IntKind.i64.wrap ((j : Int) + 1) = ((j + 1 : Nat) : Int) := by rw [wrap_i64 (by omega) (by omega)]; omega
      simp only [g3]
      by_cases n1 : free.getD e 0 < 0
      · have d1 : decide (free.getD e 0 < 0) = true := by simpa using n1
        have d2 : decide (0 > left) = false := by simp; omega
        simp only [d1, d2, cond_true, cond_false]
        rw [chk_true c4]
        show nthN got e _ = _
        rw [nthN_get f2]
        have : give left (free.getD e 0) = 0 := by unfold give; rw [if_pos (by omega : (0 : Int) > free.getD e 0)]; split <;> omega
        rw [this, wrap_i64 (by omega) (by omega)]
      · have d1 : decide (free.getD e 0 < 0) = false := by simpa using n1
        simp only [d1, cond_false]
        by_cases n2 : free.getD e 0 > left
        · have d2 : decide (free.getD e 0 > left) = true := by simpa using n2
          simp only [d2, cond_true]
          rw [chk_true c4]
          show nthN got e _ = _
          rw [nthN_get f2]
          have : give left (free.getD e 0) = left := by unfold give; rw [if_neg (by omega : ¬ (0 : Int) > free.getD e 0), if_pos (by omega)]
          rw [this, wrap_i64 (by omega) (by omega)]
        · have d2 : decide (free.getD e 0 > left) = false := by simpa using n2
          simp only [d2, cond_false]
          rw [chk_true c4]
          show nthN got e _ = _
          rw [nthN_get f2]
          have : give left (free.getD e 0) = free.getD e 0 := by unfold give; rw [if_neg (by omega : ¬ (0 : Int) > free.getD e 0), if_neg (by omega)]
          rw [this, wrap_i64 (by omega) (by omega)]
    rw [iterL_next hstep, ref_loop c i hi R row hrow hw hRr hR free g0 hf hlen k (j + 1) (by omega) _ _ (by simp [hg]) (by omega) (by omega)]
    rfl


theorem refSplit_val {c : Cg} (hc : Prio c) (sku qty : Int) (free : List Int) (h1 : 0 ≤ sku ∧ sku < 256) (h2 : -9223372036854775808 ≤ qty ∧ qty < 9223372036854775808) (h3 : free.length = 4) : pledgeref33_Split c sku qty free = some (splitOf c sku qty free) := by
  have hs4 : 1 ≤ c.1 ∧ c.1 ≤ 3 := by rcases hc.skus with e | e | e <;> omega
  have hw4 : 1 ≤ c.2.1 ∧ c.2.1 ≤ 3 := by rcases hc.wares with e | e | e <;> omega
  obtain ⟨i, rfl⟩ : ∃ i : Nat, sku = (i : Int) := Int.eq_ofNat_of_zero_le h1.1
  have wi : IntKind.i64.wrap (i : Int) = (i : Int) := wrap_i64 (by omega) (by omega)
  unfold pledgeref33_Split splitOf
  simp only [wi]
  by_cases hq : qty < 1
  · rw [dec_t hq, if_pos hq]; rfl
  · rw [dec_f hq, if_neg hq]
    simp only [cond_false]
    by_cases hge : (i : Int) ≥ c.1
    · rw [dec_t hge, if_pos hge]; rfl
    · rw [dec_f hge, if_neg hge]
      simp only [cond_false]
      obtain ⟨row, R, p1, p2, p3, p4, p5, p6⟩ := hc.rows i (by omega)
      have hR4 : ∀ e ∈ R, 0 ≤ e ∧ e < 4 := fun e he => by have := p5 e he; omega
      have hgetD : c.2.2.2.1.getD (i : Int).toNat [] = row := by
        rw [Int.toNat_natCast, List.getD_eq_getElem?_getD, p1]; rfl
      have := iterL_mono (ref_loop c i (by omega) R row p1 p4.symm (fun j hj => by rw [p3, List.getElem?_take, if_pos (by omega)]) hR4 free (List.replicate 4 0) h3 (by omega) R.length 0 (by omega) qty (List.replicate 4 0) (by simp) (by omega) h2.2) (m := loopN) (by rw [loopN_eq]; omega)
      simp only [List.drop_zero] at this
      rw [show ((0 : Nat) : Int) = 0 from rfl] at this
      rw [this, hgetD, ← p3]
      rfl
end Go.Proofs.Pure
