/- The plain law AllocPrio: who comes first gives first. -/
import Derived.Test.YtmhbfandkefnaaaSplit
import Derived.Test.YtmhbfandkefnaaaSum
set_option linter.unusedVariables false
namespace Go.Proofs.Pure
open Go.Proofs.D Go.Proofs.F

/-- What is left behind so many warehouses. -/
def leftAt : List Int → Int → List Int → Nat → Int
  | _, L, _, 0 => L
  | [], L, _, _ + 1 => L
  | e :: r, L, free, i + 1 => leftAt r (L - give L (free.getD e.toNat 0)) free i

theorem leftAt_end (free : List Int) : ∀ (R : List Int) (L : Int) (got : List Int), (runS R L free got).1 = leftAt R L free R.length
  | [], L, got => rfl
  | e :: r, L, got => leftAt_end free r _ _

theorem leftAt_le (free : List Int) : ∀ (R : List Int) (L : Int) (i : Nat), 0 ≤ L → 0 ≤ leftAt R L free i ∧ leftAt R L free i ≤ L
  | R, L, 0, h => by cases R <;> exact ⟨h, Int.le_refl _⟩
  | [], L, i + 1, h => ⟨h, Int.le_refl _⟩
  | e :: r, L, i + 1, h => by
    have hg := give_le (f := free.getD e.toNat 0) h
    have := leftAt_le free r (L - give L (free.getD e.toNat 0)) i (by omega)
    simp only [leftAt]; omega

theorem leftAt_succ (free : List Int) : ∀ (R : List Int) (L : Int) (i : Nat) (h : i < R.length), leftAt R L free (i + 1) = leftAt R L free i - give (leftAt R L free i) (free.getD (R[i]).toNat 0)
  | [], L, i, h => by simp at h
  | e :: r, L, 0, h => by cases r <;> rfl
  | e :: r, L, i + 1, h => by
    simp only [leftAt]
    exact leftAt_succ free r _ i (by simpa using h)

theorem runS_len (free : List Int) : ∀ (R : List Int) (L : Int) (got : List Int), (runS R L free got).2.length = got.length
  | [], L, got => rfl
  | e :: r, L, got => by simp only [runS]; rw [runS_len free r]; simp

theorem runS_other (free : List Int) (n : Nat) : ∀ (R : List Int) (L : Int) (got : List Int), (∀ e ∈ R, e.toNat ≠ n) → (runS R L free got).2[n]? = got[n]?
  | [], L, got, _ => rfl
  | e :: r, L, got, h => by
    simp only [runS]
    rw [runS_other free n r _ _ (fun x hx => h x (List.mem_cons_of_mem _ hx)), List.getElem?_set_ne (h e List.mem_cons_self)]

theorem runS_get (free : List Int) : ∀ (R : List Int) (L : Int) (got : List Int) (i : Nat) (hi : i < R.length), R.Nodup → (∀ e ∈ R, 0 ≤ e ∧ e.toNat < got.length) →
    (runS R L free got).2[(R[i]).toNat]? = some (give (leftAt R L free i) (free.getD (R[i]).toNat 0))
  | [], L, got, i, hi, _, _ => by simp at hi
  | e :: r, L, got, 0, hi, hn, hr => by
    obtain ⟨h1, h2⟩ := List.nodup_cons.1 hn
    have he := hr e List.mem_cons_self
    simp only [runS, List.getElem_cons_zero]
    rw [runS_other free e.toNat r _ _ (fun x hx q => by
      have := hr x (List.mem_cons_of_mem _ hx)
      have : x = e := by omega
      subst this; exact h1 hx), List.getElem?_set]
    simp only [if_true, if_pos he.2]
    cases r <;> rfl
  | e :: r, L, got, i + 1, hi, hn, hr => by
    obtain ⟨h1, h2⟩ := List.nodup_cons.1 hn
    simp only [runS, List.getElem_cons_succ, leftAt]
    exact runS_get free r _ _ i (by simpa using hi) h2 fun x hx => by
      have := hr x (List.mem_cons_of_mem _ hx)
      simpa using this

theorem total_set : ∀ (l : List Int) (n : Nat) (x : Int), n < l.length → total (l.set n x) = total l - l.getD n 0 + x
  | [], n, x, h => by simp at h
  | a :: l, 0, x, h => by simp [total]; omega
  | a :: l, n + 1, x, h => by
    simp only [List.set_cons_succ, total]
    rw [total_set l n x (by simpa using h)]
    simp [List.getD_eq_getElem?_getD]; omega

theorem runS_total (free : List Int) : ∀ (R : List Int) (L : Int) (got : List Int), R.Nodup → (∀ e ∈ R, 0 ≤ e ∧ e.toNat < got.length ∧ got.getD e.toNat 0 = 0) →
    total (runS R L free got).2 + (runS R L free got).1 = total got + L
  | [], L, got, _, _ => rfl
  | e :: r, L, got, hn, hr => by
    obtain ⟨h1, h2⟩ := List.nodup_cons.1 hn
    have he := hr e List.mem_cons_self
    simp only [runS]
    rw [runS_total free r _ _ h2 fun x hx => ?_, total_set _ _ _ he.2.1, he.2.2]
    · omega
    · have hx' := hr x (List.mem_cons_of_mem _ hx)
      have hne : e.toNat ≠ x.toNat := fun q => by
        have : x = e := by omega
        subst this; exact h1 hx
      refine ⟨hx'.1, by simpa using hx'.2.1, ?_⟩
      have := hx'.2.2
      simp only [List.getD_eq_getElem?_getD] at this ⊢
      rw [List.getElem?_set_ne hne]; exact this

def max0 (n : Int) : Int := if 0 > n then 0 else n
theorem max0_le (n : Int) : 0 ≤ max0 n := by unfold max0; split <;> omega

abbrev Cg := Int × Int × List ((Int × Int × Int × Unit) × Int × Int × Int × Unit) × List (List Int) × Int × Int × Int × Int × Int × Int × Int × Unit
abbrev Ak := Int × Int × List Int × Unit

theorem prio_loop (c : Cg) (y : Ak) (i0 : Nat) (hi0 : i0 < 4) (hy : y.1 = (i0 : Int)) (R row : List Int) (hrow : c.2.2.2.1[i0]? = some row) (hw : c.2.1 = (R.length : Int)) (hlen : R.length ≤ 4) (hRr : ∀ j, j < R.length → row[j]? = R[j]?) (hR : ∀ e ∈ R, 0 ≤ e ∧ e < 4) (hn : R.Nodup)
    (hf : y.2.2.1.length = 4) (L : Int) (hL : 0 ≤ L) (left : Int) (got : List Int) (hg : got = (runS R L y.2.2.1 (List.replicate 4 0)).2) :
    ∀ (k i : Nat), i + k = R.length → ∀ full : Bool, (full = true ∨ leftAt R L y.2.2.1 i = 0) →
      ∃ full', iterL pledgelaw33_AllocPrio.l1 (k + 1) (((), ((), ((), (left, (full, (i : Int)))))), (y, (c, (got, ())))) = some (.inl (((), ((), ((), (left, full')))), (y, (c, (got, ()))))) ∧ (full' = true ∨ leftAt R L y.2.2.1 R.length = 0)
  | 0, i, h, full, hfull => by
    refine ⟨full, iterL_done ?_, ?_⟩
    · unfold pledgelaw33_AllocPrio.l1
      simp only [dec_f (show ¬ (i : Int) < c.2.1 by rw [hw]; omega), cond_false]
    · rwa [show i = R.length by omega] at hfull
  | k + 1, i, h, full, hfull => by
    have hi : i < R.length := by omega
    have he : R[i]? = some R[i] := List.getElem?_eq_getElem hi
    have hb := hR R[i] (List.getElem_mem hi)
    obtain ⟨e, hen⟩ : ∃ e : Nat, R[i] = (e : Int) := Int.eq_ofNat_of_zero_le hb.1
    have hgot := runS_get y.2.2.1 R L (List.replicate 4 0) i hi hn fun x hx => by have := hR x hx; simp; omega
    rw [← hg] at hgot
    have hsucc := leftAt_succ y.2.2.1 R L i hi
    rw [hen] at he hb hgot hsucc
    rw [Int.toNat_natCast] at hgot hsucc
    have he4 : e < 4 := by omega
    have hfr := got4 hf he4
    have hl := leftAt_le y.2.2.1 R L i hL
    have hgv := give_le (f := y.2.2.1.getD e 0) hl.1
    -- what the next state is
    have next : ∃ full1, pledgelaw33_AllocPrio.l1 (((), ((), ((), (left, (full, (i : Int)))))), (y, (c, (got, ())))) = some (.inl (((), ((), ((), (left, (full1, ((i + 1 : Nat) : Int)))))), (y, (c, (got, ()))))) ∧
        (full1 = true ∨ leftAt R L y.2.2.1 (i + 1) = 0) := by
      have c1 : (decide (0 ≤ (i0 : Int)) && decide ((i0 : Int) < 4)) = true := by simp; omega
      have c2 : (decide (0 ≤ (i : Int)) && decide ((i : Int) < 4)) = true := by simp; omega
      have c3 : (decide (0 ≤ (e : Int)) && decide ((e : Int) < 4)) = true := by simp; omega
      generalize hgd : give (leftAt R L y.2.2.1 i) (y.2.2.1.getD e 0) = t at hgot hsucc hgv
      have ht : t ≤ (if 0 > y.2.2.1.getD e 0 then 0 else y.2.2.1.getD e 0) ∧ (t = (if 0 > y.2.2.1.getD e 0 then 0 else y.2.2.1.getD e 0) ∨ leftAt R L y.2.2.1 i - t = 0) := by
        rw [← hgd]; unfold give
        split <;> split <;> omega
      unfold pledgelaw33_AllocPrio.l1
      simp only [dec_t (show (i : Int) < c.2.1 by rw [hw]; omega), cond_true, hy]
      rw [chk_true c1, chk_true c2, nthK_get hrow, nthK_get ((hRr i hi).trans he), chk_true c3, nthK_get hgot]
      simp only [dec_f (show ¬ t < 0 by omega), cond_false]
      rw [chk_true c3, nthK_get hgot, chk_true c3, nthK_get hfr]
      simp only [dec_f (show ¬ t > (if 0 > y.2.2.1.getD e 0 then 0 else y.2.2.1.getD e 0) by omega), cond_false]
      rw [chk_true c3, nthK_get hgot, succ_i64 (by omega)]
      have fin : ((t == (if 0 > y.2.2.1.getD e 0 then 0 else y.2.2.1.getD e 0)) = true ∨ leftAt R L y.2.2.1 (i + 1) = 0) := by
        rcases ht.2 with q | q
        · exact .inl (by rw [beq_iff_eq]; exact q)
        · exact .inr (by rw [hsucc]; exact q)
      by_cases q : t > 0
      · have hfl : full = true := by
          rcases hfull with q2 | q2
          · exact q2
          · omega
        subst hfl
        simp only [dec_t q, cond_true, Bool.not_true, cond_false]
        rw [chk_true c3, nthK_get hgot, chk_true c3, nthK_get hfr]
        exact ⟨_, rfl, fin⟩
      · simp only [dec_f q, cond_false]
        cases full with
        | true =>
          simp only [cond_true]
          rw [chk_true c3, nthK_get hgot, chk_true c3, nthK_get hfr]
          exact ⟨_, rfl, fin⟩
        | false =>
          simp only [cond_false]
          refine ⟨_, rfl, .inr ?_⟩
          rcases hfull with q2 | q2
          · cases q2
          · omega
    obtain ⟨full1, n1, n2⟩ := next
    obtain ⟨full', m1, m2⟩ := prio_loop c y i0 hi0 hy R row hrow hw hlen hRr hR hn hf L hL left got hg k (i + 1) (by omega) full1 n2
    exact ⟨full', by rw [iterL_next n1]; exact m1, m2⟩

theorem AllocPrio (x : Sm) (y : Ak) (hx : WfE kSmall x) (hy : WfE kAsk y) : pledgelaw33_AllocPrio x y = some true := by
  obtain ⟨y1, y2, ⟨y3, _⟩, _⟩ := hy
  have w1 := wf_u8 y1
  have w2 := wf_i64 y2
  have y3 : y.2.2.1.length = 4 := y3
  obtain ⟨c, k1, k2, ts, tw, rows⟩ := alloc_val x hx y.1 y.2.1 y.2.2.1 w1 w2 y3
  have hs4 : 1 ≤ c.1 ∧ c.1 ≤ 3 := by rcases ts with e | e | e <;> omega
  have hw4 : 1 ≤ c.2.1 ∧ c.2.1 ≤ 3 := by rcases tw with e | e | e <;> omega
  obtain ⟨i, hi⟩ : ∃ i : Nat, y.1 = (i : Int) := Int.eq_ofNat_of_zero_le w1.1
  unfold pledgelaw33_AllocPrio
  rw [k1, Option.bind_some, k2, Option.bind_some, wrap_i64 (by omega) (by omega)]
  by_cases hge : y.1 ≥ c.1
  · rw [dec_t hge]
    have h1 : (splitOf c y.1 y.2.1 y.2.2.1).1 = List.replicate 4 0 := by
      unfold splitOf
      split
      · rfl
      · rfl
    have h2 : (splitOf c y.1 y.2.1 y.2.2.1).2.1 = (if 0 > y.2.1 then 0 else y.2.1) := by
      unfold splitOf
      split
      · show (0 : Int) = _; split <;> omega
      · show y.2.1 = _; rw [if_neg (by omega)]
    rw [h1, h2]
    simp only [cond_true]
    rw [show eqE (.arr 4 (.int .i64)) (List.replicate 4 (0 : Int)) (List.replicate 4 (0 : Int)) = true from eqL_refl _]
    simp only [cond_true, beq_self_eq_true, works33]
    rfl
  · rw [dec_f hge]
    obtain ⟨row, R, p1, p2, p3, p4, p5, p6⟩ := rows i (by omega)
    have hR4 : ∀ e ∈ R, 0 ≤ e ∧ e < 4 := fun e he => by have := p5 e he; omega
    have hlen : R.length ≤ 3 := by omega
    have hgetD : c.2.2.2.1.getD y.1.toNat [] = row := by rw [hi, Int.toNat_natCast, List.getD_eq_getElem?_getD, p1]; rfl
    -- what was split, in one form
    have hL : 0 ≤ max0 y.2.1 ∧ max0 y.2.1 < 9223372036854775808 := by unfold max0; split <;> omega
    have hsp : splitOf c y.1 y.2.1 y.2.2.1 = ((runS R (max0 y.2.1) y.2.2.1 (List.replicate 4 0)).2, ((runS R (max0 y.2.1) y.2.2.1 (List.replicate 4 0)).1, ())) := by
      unfold splitOf
      by_cases hq : y.2.1 < 1
      · rw [if_pos hq, show max0 y.2.1 = 0 by unfold max0; split <;> omega, runS_zero]
      · rw [if_neg hq, if_neg hge, hgetD, ← p3, show max0 y.2.1 = y.2.1 by unfold max0; rw [if_neg (by omega)]]
    rw [hsp]
    generalize hgot : (runS R (max0 y.2.1) y.2.2.1 (List.replicate 4 0)).2 = got
    generalize hleft : (runS R (max0 y.2.1) y.2.2.1 (List.replicate 4 0)).1 = left
    simp only [cond_false]
    obtain ⟨full, f1, f2⟩ := prio_loop c y i (by omega) hi R row p1 p4.symm (by omega) (fun j hj => by rw [p3, List.getElem?_take, if_pos (by omega)]) hR4 p6 y3 (max0 y.2.1) hL.1 left got hgot.symm R.length 0 (by omega) true (.inl rfl)
    have f1 := iterL_mono f1 (m := loopN) (by rw [loopN_eq]; omega)
    rw [show (((0 : Nat) : Int)) = 0 from rfl] at f1
    rw [f1, Option.bind_some]
    simp only []
    have hglen : got.length = 4 := by rw [← hgot, runS_len]; simp
    have hrest : ∀ n : Nat, R.length ≤ n → n < 4 → got[n]? = some 0 := fun n h1 h2 => by
      rw [← hgot, runS_other _ n R _ _ (fun e he => by have := p5 e he; omega), List.getElem?_replicate, if_pos h2]
    have l2 : iterL pledgelaw33_AllocPrio.l2 loopN (((), ((), (left, (full, c.2.1)))), (y, (got, ()))) = some (.inl (((), ((), (left, full))), (y, (got, ())))) := by
      have := iterL_all (step := pledgelaw33_AllocPrio.l2) (fun j => (((), ((), (left, (full, (j : Int))))), (y, (got, ())))) (fun j => decide (got.getD j 0 = 0)) (.inl (((), ((), (left, full))), (y, (got, ())))) (.inr false) 4 (fun j hj => by
        have c1 : (decide (0 ≤ (j : Int)) && true) = true := by simp
        unfold pledgelaw33_AllocPrio.l2
        simp only [dec_t (show (j : Int) < 4 by omega), cond_true]
        rw [chk_true c1, nthK_get (got4 hglen hj), succ_i64 (by omega)]
        by_cases q : got.getD j 0 = 0
        · rw [show ((got.getD j 0 : Int) != 0) = false by rw [q]; rfl, dec_t q]; rfl
        · rw [show ((got.getD j 0 : Int) != 0) = true by rw [bne_iff_ne]; exact q, dec_f q]; rfl) (by
        unfold pledgelaw33_AllocPrio.l2
        rfl) (4 - R.length) R.length (by omega)
      have hall : allFrom (fun j => decide (got.getD j 0 = 0)) R.length (4 - R.length) = true := allFrom_iff.2 fun j h1 h2 => by
        have := hrest j h1 (by omega)
        simp only [decide_eq_true_eq]
        rw [List.getD_eq_getElem?_getD, this]; rfl
      rw [hall, cond_true] at this
      rw [← p4]
      exact iterL_mono this (by rw [loopN_eq]; omega)
    rw [l2, Option.bind_some]
    simp only []
    rw [show ∀ k : Int → Option Bool, nthK got 0 k = k (got.getD 0 0) from fun k => nthK_get (got4 hglen (by omega : 0 < 4)), show ∀ k : Int → Option Bool, nthK got 1 k = k (got.getD 1 0) from fun k => nthK_get (got4 hglen (by omega : 1 < 4)),
      show ∀ k : Int → Option Bool, nthK got 2 k = k (got.getD 2 0) from fun k => nthK_get (got4 hglen (by omega : 2 < 4)), show ∀ k : Int → Option Bool, nthK got 3 k = k (got.getD 3 0) from fun k => nthK_get (got4 hglen (by omega : 3 < 4))]
    have hfour : got = [got.getD 0 0, got.getD 1 0, got.getD 2 0, got.getD 3 0] := by
      match got, hglen with
      | [a, b, c, d], _ => rfl
    have htot := runS_total y.2.2.1 R (max0 y.2.1) (List.replicate 4 0) p6 fun e he => ⟨(hR4 e he).1, by have := hR4 e he; simp; omega, by rw [List.getD_eq_getElem?_getD, List.getElem?_replicate]; split <;> rfl⟩
    rw [hgot, hleft, show total (List.replicate 4 0) = 0 by rfl] at htot
    have hleft0 : 0 ≤ left ∧ left ≤ max0 y.2.1 := by rw [← hleft, leftAt_end]; exact leftAt_le _ _ _ _ hL.1
    have hpos : ∀ n : Nat, n < 4 → 0 ≤ got.getD n 0 := fun n hn => by
      by_cases h : ∃ j, ∃ hj : j < R.length, (R[j]).toNat = n
      · obtain ⟨j, hj, e⟩ := h
        have := runS_get y.2.2.1 R (max0 y.2.1) (List.replicate 4 0) j hj p6 fun x hx => by have := hR4 x hx; simp; omega
        rw [hgot, e] at this
        rw [List.getD_eq_getElem?_getD, this]
        exact (give_le (leftAt_le _ _ _ _ hL.1).1).1
      · have := runS_other y.2.2.1 n R (max0 y.2.1) (List.replicate 4 0) fun e he q => by
          obtain ⟨j, hj, e2⟩ := List.mem_iff_getElem.1 he
          exact h ⟨j, hj, by rw [e2]; exact q⟩
        rw [hgot, List.getElem?_replicate, if_pos hn] at this
        rw [List.getD_eq_getElem?_getD, this]; exact Int.le_refl _
    have g0 := hpos 0 (by omega)
    have g1 := hpos 1 (by omega)
    have g2 := hpos 2 (by omega)
    have g3 := hpos 3 (by omega)
    have htg : total got = got.getD 0 0 + (got.getD 1 0 + (got.getD 2 0 + (got.getD 3 0 + 0))) := congrArg total hfour
    have htl : total [got.getD 0 0, got.getD 1 0, got.getD 2 0, got.getD 3 0, left] = max0 y.2.1 := by
      show got.getD 0 0 + (got.getD 1 0 + (got.getD 2 0 + (got.getD 3 0 + (left + 0)))) = _
      omega
    rw [sum_val [got.getD 0 0, got.getD 1 0, got.getD 2 0, got.getD 3 0, left] (by simp) (fun z hz => by
      simp only [List.mem_cons, List.not_mem_nil, or_false] at hz
      rcases hz with q | q | q | q | q <;> subst q <;> omega) (by rw [htl]; omega) (by rw [htl]; omega), htl, Option.bind_some]
    have hm : ((max0 y.2.1 : Int) == (if 0 > y.2.1 then 0 else y.2.1)) = true := by unfold max0; exact beq_self_eq_true _
    simp only [dec_t (show left ≥ 0 by omega), cond_true, hm, works33, Option.bind_some]
    by_cases hl0 : left = 0
    · rw [show ((left : Int) == 0) = true by simp [hl0]]; rfl
    · rw [show ((left : Int) == 0) = false by simp [hl0]]
      rcases f2 with q | q
      · rw [q]; rfl
      · exfalso
        rw [← hleft, leftAt_end] at hl0
        exact hl0 q
end Go.Proofs.Pure
