/- slices.Sort of less than 128 numbers, in place, is mergeSort -/
import Derived.Test.YtmmhjcimijfipaaGreatFnJpla
import Derived.Test.YtmmhjcimijfipaaGreatPLib
import Derived.Sort.AssemblyPlain
import Derived.KernelRfl
import Derived.Sort.Walk13a
set_option linter.unusedVariables false
set_option linter.unusedSimpArgs false
set_option maxRecDepth 100000

/- Rows in place: what is read, what is swapped. -/
namespace Go.Proofs.F
open Go.Proofs.D Go.Sort

theorem bndS {α β : Type} {o : Option α} {x : α} {f : α → Option β} (h : o = some x) : o.bind f = f x := by rw [h]; rfl
abbrev ltU : Int → Int → Bool := ltInt
theorem lessU (x y : Int) : cmp_Less_uint32 x y = some (ltU x y) := by
  unfold cmp_Less_uint32 cmp_isNaN_uint32
  simp [ltU, ltInt]
section
variable {R : Type} {d : Array Int}
theorem get_A {i : Nat} (h : i < d.size) : d.toList[i]? = some d[i]! := by
  rw [Array.getElem?_toList, Array.getElem?_eq_getElem h, getElem!_pos d i h]
theorem chk_A {i : Nat} {x : Option R} (h : i < d.size) : chk (decide (0 ≤ (i : Int)) && decide ((i : Int) < (d.toList.length : Int))) x = x := chk_true (by simp; exact h)
theorem rd_A {i : Nat} {K : Int → Option R} (h : i < d.size) : chk (decide (0 ≤ (i : Int)) && decide ((i : Int) < (d.toList.length : Int))) (nthK d.toList (i : Int) K) = K d[i]! := by
  rw [chk_A h, nthK_get (get_A h)]
/-- Two elements of a row change places. -/
theorem sw_A {i j : Nat} {K : List Int → Option R} (hi : i < d.size) (hj : j < d.size) :
    chk (decide (0 ≤ (i : Int)) && decide ((i : Int) < (d.toList.length : Int))) (natK (i : Int) fun n => nthN d.toList n fun _ => chk (decide (0 ≤ (j : Int)) && decide ((j : Int) < ((d.toList.set n d[j]!).length : Int))) (natK (j : Int) fun m => nthN (d.toList.set n d[j]!) m fun _ => K ((d.toList.set n d[j]!).set m d[i]!))) = K (swp d i j).toList := by
  rw [chk_A hi]
  show nthN d.toList i _ = _
  rw [nthN_get (get_A hi), chk_true (by simp; exact hj)]
  show nthN (d.toList.set i d[j]!) j _ = _
  have h2 : (d.toList.set i d[j]!)[j]? = some ((d.toList.set i d[j]!)[j]'(by simp; exact hj)) := List.getElem?_eq_getElem _
  rw [nthN_get h2]
  congr 1
  unfold swp
  rw [Array.toList_setIfInBounds, Array.toList_setIfInBounds]
end
theorem wI {n : Int} (h1 : -9223372036854775808 ≤ n) (h2 : n < 9223372036854775808) : IntKind.i64.wrap n = n := wrap_i64 h1 h2
end Go.Proofs.F

/- Insertion in a part of a row. -/
namespace Go.Proofs.F
open Go.Proofs.D Go.Sort

theorem insInner_size (a : Nat) : ∀ (j : Nat) (d : Array Int), (insInner ltU a j d).size = d.size
  | 0, d => rfl
  | j + 1, d => by
    unfold insInner; split
    · rw [insInner_size a j, size_swp]
    · rfl
theorem ins_in (a : Nat) (b i : Int) : ∀ (j : Nat) (d : Array Int), j < d.size → d.size < 1000000 →
    iterL s_insertionSortO.l2 (j + 1) (((), ((a : Int), (b, (i, (j : Int))))), (d.toList, ())) = some (((), ((a : Int), (b, i))), ((insInner ltU a j d).toList, ()))
  | 0, d, hj, hs => by
    refine iterL_done ?_
    unfold s_insertionSortO.l2
    simp only [dec_f (show ¬ ((0 : Nat) : Int) > (a : Int) by omega), cond_false]
    rfl
  | j + 1, d, hj, hs => by
    have e1 : IntKind.i64.wrap (((j + 1 : Nat) : Int) - 1) = (j : Int) := pred_i64 (by omega)
    have hstep : s_insertionSortO.l2 (((), ((a : Int), (b, (i, ((j + 1 : Nat) : Int))))), (d.toList, ())) = if j + 1 > a && ltU d[j + 1]! d[j]! then some (.inl (((), ((a : Int), (b, (i, (j : Int))))), ((swp d (j + 1) j).toList, ()))) else some (.inr (((), ((a : Int), (b, i))), (d.toList, ()))) := by
      unfold s_insertionSortO.l2
      by_cases h : j + 1 > a
      · simp only [dec_t (show ((j + 1 : Nat) : Int) > (a : Int) by omega), cond_true, e1]
        rw [rd_A hj, rd_A (show j < d.size by omega), lessU, Option.bind_some]
        cases hl : ltU d[j + 1]! d[j]! with
        | false => simp
        | true =>
          rw [cond_true, rd_A (show j < d.size by omega), rd_A hj]
          refine (sw_A (K := fun l => some (Sum.inl (((), ((a : Int), (b, (i, (j : Int))))), (l, ())))) hj (show j < d.size by omega)).trans ?_
          simp [h]
      · simp only [dec_f (show ¬ ((j + 1 : Nat) : Int) > (a : Int) by omega), cond_false]
        simp [h]
    have hu : insInner ltU a (j + 1) d = if j + 1 > a && ltU d[j + 1]! d[j]! then insInner ltU a j (swp d (j + 1) j) else d := rfl
    rw [hu]
    by_cases hc : (decide (j + 1 > a) && ltU d[j + 1]! d[j]!) = true
    · rw [if_pos hc] at hstep ⊢
      refine (iterL_next hstep).trans ?_
      exact ins_in a b i j _ (by rw [size_swp]; omega) (by rw [size_swp]; exact hs)
    · rw [if_neg hc] at hstep ⊢
      exact iterL_done hstep
theorem ins_out (a b : Nat) : ∀ (k i : Nat) (d : Array Int), b - i = k → b ≤ d.size → d.size < 1000000 →
    iterL s_insertionSortO.l1 (k + 1) (((), ((a : Int), ((b : Int), (i : Int)))), (d.toList, ())) = some ((), ((insOuter ltU a b i d).toList, ())) := by
  intro k
  induction k with
  | zero =>
    intro i d hk hb hs
    refine iterL_done ?_
    unfold s_insertionSortO.l1 insOuter
    simp only [dec_f (show ¬ (i : Int) < (b : Int) by omega), cond_false]
    rw [if_neg (by omega)]
  | succ k ih =>
    intro i d hk hb hs
    have hin := iterL_mono (m := loopN) (ins_in a (b : Int) (i : Int) i d (by omega) hs) (by rw [loopN_eq]; omega)
    have hstep : s_insertionSortO.l1 (((), ((a : Int), ((b : Int), (i : Int)))), (d.toList, ())) = some (.inl (((), ((a : Int), ((b : Int), ((i + 1 : Nat) : Int)))), ((insInner ltU a i d).toList, ()))) := by
      unfold s_insertionSortO.l1
      simp only [dec_t (show (i : Int) < (b : Int) by omega), cond_true]
      refine (bndS hin).trans ?_
      rw [succ_i64 (by omega)]
    refine (iterL_next hstep).trans ?_
    rw [ih (i + 1) _ (by omega) (by rw [insInner_size]; exact hb) (by rw [insInner_size]; exact hs)]
    have : insOuter ltU a b i d = if i < b then insOuter ltU a b (i + 1) (insInner ltU a i d) else d := by rw [insOuter]
    rw [this, if_pos (by omega)]
theorem ins_val (a b : Nat) (d : Array Int) (hb : b ≤ d.size) (hs : d.size < 1000000) (ha : a < 1000000) : s_insertionSortO () (a : Int) (b : Int) d.toList = some ((), ((insertionSort ltU d a b).toList, ())) := by
  unfold s_insertionSortO
  rw [succ_i64 (by omega)]
  have h := iterL_mono (m := loopN) (ins_out a b (b - (a + 1)) (a + 1) d rfl hb hs) (by rw [loopN_eq]; omega)
  exact (bndS h).trans rfl
end Go.Proofs.F

/- The heap in a part of a row. -/
namespace Go.Proofs.F
open Go.Proofs.D Go.Sort

theorem siftDown_eq (hi first root : Nat) (d : Array Int) : siftDown ltU hi first root d = if 2 * root + 1 ≥ hi then d else
    (let c := if 2 * root + 1 + 1 < hi && ltU d[first + (2 * root + 1)]! d[first + (2 * root + 1) + 1]! then 2 * root + 2 else 2 * root + 1
     if !ltU d[first + root]! d[first + c]! then d else siftDown ltU hi first c (swp d (first + root) (first + c))) := by
  rw [siftDown]
  by_cases h : 2 * root + 1 ≥ hi
  · rw [dif_pos h, if_pos h]
  · rw [dif_neg h, if_neg h]
    by_cases h2 : (decide (2 * root + 1 + 1 < hi) && ltU d[first + (2 * root + 1)]! d[first + (2 * root + 1) + 1]!) = true
    · rw [if_pos h2]
      have h3 : 2 * root + 2 < hi := by simp only [Bool.and_eq_true, decide_eq_true_eq] at h2; omega
      simp only [h2, if_true, dif_pos h3]
    · rw [if_neg h2]
      simp only [h2, if_false, Bool.false_eq_true]
theorem siftDown_size (hi first : Nat) : ∀ (k root : Nat) (d : Array Int), hi - root ≤ k → (siftDown ltU hi first root d).size = d.size := by
  intro k
  induction k with
  | zero =>
    intro root d h
    rw [siftDown_eq, if_pos (by omega)]
  | succ k ih =>
    intro root d h
    rw [siftDown_eq]
    by_cases h1 : 2 * root + 1 ≥ hi
    · rw [if_pos h1]
    · rw [if_neg h1]
      generalize hc : (if (decide (2 * root + 1 + 1 < hi) && ltU d[first + (2 * root + 1)]! d[first + (2 * root + 1) + 1]!) = true then 2 * root + 2 else 2 * root + 1) = c
      have hc1 : root < c := by rw [← hc]; split <;> omega
      simp only
      split
      · rfl
      · rw [ih c _ (by omega), size_swp]
theorem sift_in (hi first : Nat) : ∀ (k root : Nat) (d : Array Int), hi - root ≤ k → first + hi ≤ d.size → d.size < 1000000 → root < 1000000 →
    ∃ r, iterL s_siftDownO.l1 (k + 1) (((), ((hi : Int), ((first : Int), (root : Int)))), (d.toList, ())) = some r ∧ (r = .inl ((), ((siftDown ltU hi first root d).toList, ())) ∨ r = .inr ((), ((siftDown ltU hi first root d).toList, ()))) := by
  intro k
  induction k with
  | zero =>
    intro root d h hb hs hr
    refine ⟨.inl ((), (d.toList, ())), iterL_done ?_, .inl ?_⟩
    · unfold s_siftDownO.l1
      have e1 : IntKind.i64.wrap (2 * (root : Int)) = 2 * (root : Int) := wI (by omega) (by omega)
      have e2 : IntKind.i64.wrap (2 * (root : Int) + 1) = 2 * (root : Int) + 1 := wI (by omega) (by omega)
      simp only [e1, e2, dec_t (show 2 * (root : Int) + 1 ≥ (hi : Int) by omega), cond_true]
    · rw [siftDown_eq, if_pos (by omega)]
  | succ k ih =>
    intro root d h hb hs hr
    have e1 : IntKind.i64.wrap (2 * (root : Int)) = 2 * (root : Int) := wI (by omega) (by omega)
    have e2 : IntKind.i64.wrap (2 * (root : Int) + 1) = ((2 * root + 1 : Nat) : Int) := by rw [wI (by omega) (by omega)]; omega
    by_cases h1 : 2 * root + 1 ≥ hi
    · refine ⟨.inl ((), (d.toList, ())), iterL_done ?_, .inl ?_⟩
      · unfold s_siftDownO.l1
        simp only [e1, e2, dec_t (show ((2 * root + 1 : Nat) : Int) ≥ (hi : Int) by omega), cond_true]
      · rw [siftDown_eq, if_pos h1]
    · have e3 : IntKind.i64.wrap (((2 * root + 1 : Nat) : Int) + 1) = ((2 * root + 2 : Nat) : Int) := succ_i64 (by omega)
      have e4 : IntKind.i64.wrap ((first : Int) + ((2 * root + 1 : Nat) : Int)) = ((first + (2 * root + 1) : Nat) : Int) := by rw [wI (by omega) (by omega)]; omega
      have e5 : IntKind.i64.wrap (((first + (2 * root + 1) : Nat) : Int) + 1) = ((first + (2 * root + 1) + 1 : Nat) : Int) := succ_i64 (by omega)
      generalize hc : (if (decide (2 * root + 1 + 1 < hi) && ltU d[first + (2 * root + 1)]! d[first + (2 * root + 1) + 1]!) = true then 2 * root + 2 else 2 * root + 1) = c
      have hc1 : root < c ∧ c < hi := by
        rw [← hc]; split
        · rename_i q; simp only [Bool.and_eq_true, decide_eq_true_eq] at q; omega
        · omega
      have e6 : IntKind.i64.wrap ((first : Int) + (root : Int)) = ((first + root : Nat) : Int) := by rw [wI (by omega) (by omega)]; omega
      have e7 : IntKind.i64.wrap ((first : Int) + (c : Int)) = ((first + c : Nat) : Int) := by rw [wI (by omega) (by omega)]; omega
      have hstep : s_siftDownO.l1 (((), ((hi : Int), ((first : Int), (root : Int)))), (d.toList, ())) = if (!ltU d[first + root]! d[first + c]!) = true then some (.inr (.inr ((), (d.toList, ())))) else some (.inl (((), ((hi : Int), ((first : Int), (c : Int)))), ((swp d (first + root) (first + c)).toList, ()))) := by
        unfold s_siftDownO.l1
        simp only [e1, e2, dec_f (show ¬ ((2 * root + 1 : Nat) : Int) ≥ (hi : Int) by omega), cond_false, e3, e4, e5]
        have hpre : (bif decide (((2 * root + 2 : Nat) : Int) < (hi : Int)) then chk (decide (0 ≤ ((first + (2 * root + 1) : Nat) : Int)) && decide (((first + (2 * root + 1) : Nat) : Int) < (d.toList.length : Int))) (nthK d.toList ((first + (2 * root + 1) : Nat) : Int) fun e12 => chk (decide (0 ≤ ((first + (2 * root + 1) + 1 : Nat) : Int)) && decide (((first + (2 * root + 1) + 1 : Nat) : Int) < (d.toList.length : Int))) (nthK d.toList ((first + (2 * root + 1) + 1 : Nat) : Int) fun e13 => (cmp_Less_uint32 e12 e13).bind fun r14 => bif r14 then some ((((), ((hi : Int), ((first : Int), ((root : Int), ((2 * root + 2 : Nat) : Int))))), (d.toList, ()))) else some ((((), ((hi : Int), ((first : Int), ((root : Int), ((2 * root + 1 : Nat) : Int))))), (d.toList, ()))))) else some ((((), ((hi : Int), ((first : Int), ((root : Int), ((2 * root + 1 : Nat) : Int))))), (d.toList, ()))) : Option ((Unit × Int × Int × Int × Int) × List Int × Unit)) = some ((((), ((hi : Int), ((first : Int), ((root : Int), (c : Int))))), (d.toList, ()))) := by
          by_cases h2 : 2 * root + 1 + 1 < hi
          · rw [dec_t (show ((2 * root + 2 : Nat) : Int) < (hi : Int) by omega), cond_true, rd_A (show first + (2 * root + 1) < d.size by omega), rd_A (show first + (2 * root + 1) + 1 < d.size by omega), lessU, Option.bind_some, ← hc]
            cases ltU d[first + (2 * root + 1)]! d[first + (2 * root + 1) + 1]! <;> simp [h2]
          · rw [dec_f (show ¬ ((2 * root + 2 : Nat) : Int) < (hi : Int) by omega), cond_false, ← hc]
            simp [h2]
        refine (congrArg (fun o => Option.bind o _) hpre).trans ?_
        rw [Option.bind_some]
        simp only [e6, e7]
        rw [rd_A (show first + root < d.size by omega), rd_A (show first + c < d.size by omega), lessU, Option.bind_some]
        cases hl : (!ltU d[first + root]! d[first + c]!) with
        | true => simp
        | false =>
          rw [cond_false, rd_A (show first + c < d.size by omega), rd_A (show first + root < d.size by omega)]
          refine (sw_A (K := fun l => some (Sum.inl (((), ((hi : Int), ((first : Int), (c : Int)))), (l, ())))) (show first + root < d.size by omega) (show first + c < d.size by omega)).trans ?_
          simp
      have hu := siftDown_eq hi first root d
      rw [if_neg h1] at hu
      simp only [hc] at hu
      rw [hu]
      by_cases hl : (!ltU d[first + root]! d[first + c]!) = true
      · rw [if_pos hl] at hstep ⊢
        exact ⟨_, iterL_done hstep, .inr rfl⟩
      · rw [if_neg hl] at hstep ⊢
        obtain ⟨r, g1, g2⟩ := ih c (swp d (first + root) (first + c)) (by omega) (by rw [size_swp]; exact hb) (by rw [size_swp]; exact hs) (by omega)
        exact ⟨r, (iterL_next hstep).trans g1, g2⟩
theorem sift_val (hi first root : Nat) (d : Array Int) (hb : first + hi ≤ d.size) (hs : d.size < 1000000) (hr : root < 1000000) : s_siftDownO () (root : Int) (hi : Int) (first : Int) d.toList = some ((), ((siftDown ltU hi first root d).toList, ())) := by
  obtain ⟨r, g1, g2⟩ := sift_in hi first (hi - root) root d (Nat.le_refl _) hb hs hr
  unfold s_siftDownO
  refine (bndS (iterL_mono (m := loopN) g1 (by rw [loopN_eq]; omega))).trans ?_
  rcases g2 with e | e <;> subst e <;> rfl

theorem heap_build (hi first : Nat) (lo : Int) : ∀ (k : Nat) (d : Array Int), k ≤ 1000000 → first + hi ≤ d.size → d.size < 1000000 →
    iterL s_heapSortO.l1 (k + 1) (((), ((first : Int), (lo, ((hi : Int), (k : Int) - 1)))), (d.toList, ())) = some (((), ((first : Int), (lo, (hi : Int)))), ((heapBuild ltU hi first k d).toList, ())) ∧ (heapBuild ltU hi first k d).size = d.size := by
  intro k
  induction k with
  | zero =>
    intro d hk hb hs
    refine ⟨iterL_done ?_, rfl⟩
    unfold s_heapSortO.l1
    simp only [dec_f (show ¬ (((0 : Nat) : Int) - 1) ≥ 0 by omega), cond_false]
    rfl
  | succ k ih =>
    intro d hk hb hs
    have e1 : (((k + 1 : Nat) : Int) - 1) = (k : Int) := by omega
    have hz := siftDown_size hi first (hi - k) k d (Nat.le_refl _)
    obtain ⟨g1, g2⟩ := ih (siftDown ltU hi first k d) (by omega) (by rw [hz]; exact hb) (by rw [hz]; exact hs)
    have hstep : s_heapSortO.l1 (((), ((first : Int), (lo, ((hi : Int), ((k + 1 : Nat) : Int) - 1)))), (d.toList, ())) = some (.inl (((), ((first : Int), (lo, ((hi : Int), (k : Int) - 1)))), ((siftDown ltU hi first k d).toList, ()))) := by
      unfold s_heapSortO.l1
      simp only [e1, dec_t (show (k : Int) ≥ 0 by omega), cond_true]
      refine (bndS (sift_val hi first k d hb hs (by omega))).trans ?_
      rw [wI (by omega) (by omega)]
    exact ⟨(iterL_next hstep).trans g1, by unfold heapBuild; rw [g2, hz]⟩
theorem heap_pop (first : Nat) : ∀ (k : Nat) (d : Array Int), first + k ≤ d.size → d.size < 1000000 →
    iterL s_heapSortO.l2 (k + 1) (((), ((first : Int), (0, (k : Int) - 1))), (d.toList, ())) = some ((), ((heapPop ltU first k d).toList, ())) := by
  intro k
  induction k with
  | zero =>
    intro d hb hs
    refine iterL_done ?_
    unfold s_heapSortO.l2
    simp only [dec_f (show ¬ (((0 : Nat) : Int) - 1) ≥ 0 by omega), cond_false]
    rfl
  | succ k ih =>
    intro d hb hs
    have e1 : (((k + 1 : Nat) : Int) - 1) = (k : Int) := by omega
    have e2 : IntKind.i64.wrap ((first : Int) + (k : Int)) = ((first + k : Nat) : Int) := by rw [wI (by omega) (by omega)]; omega
    have hz : (siftDown ltU k first 0 (swp d first (first + k))).size = d.size := by rw [siftDown_size k first k 0 _ (by omega), size_swp]
    have hstep : s_heapSortO.l2 (((), ((first : Int), (0, ((k + 1 : Nat) : Int) - 1))), (d.toList, ())) = some (.inl (((), ((first : Int), (0, (k : Int) - 1))), ((siftDown ltU k first 0 (swp d first (first + k))).toList, ()))) := by
      unfold s_heapSortO.l2
      simp only [e1, dec_t (show (k : Int) ≥ 0 by omega), cond_true, e2]
      rw [rd_A (show first + k < d.size by omega), rd_A (show first < d.size by omega)]
      refine (sw_A (K := fun l => (s_siftDownO () 0 (k : Int) (first : Int) l).bind fun r10 => some (Sum.inl (((), ((first : Int), (0, IntKind.i64.wrap ((k : Int) - 1)))), (r10.2.1, ())))) (show first < d.size by omega) (show first + k < d.size by omega)).trans ?_
      refine (bndS (sift_val k first 0 (swp d first (first + k)) (by rw [size_swp]; omega) (by rw [size_swp]; exact hs) (by omega))).trans ?_
      rw [wI (by omega) (by omega)]
    refine (iterL_next hstep).trans ?_
    exact ih _ (by rw [hz]; omega) (by rw [hz]; exact hs)
theorem heap_val (a b : Nat) (d : Array Int) (hab : a < b) (hb : b ≤ d.size) (hs : d.size < 1000000) : s_heapSortO () (a : Int) (b : Int) d.toList = some ((), ((heapSort ltU d a b).toList, ())) := by
  have e1 : IntKind.i64.wrap ((b : Int) - (a : Int)) = ((b - a : Nat) : Int) := by rw [wI (by omega) (by omega)]; omega
  have e2 : IntKind.i64.wrap (((b - a : Nat) : Int) - 1) = ((b - a : Nat) : Int) - 1 := wI (by omega) (by omega)
  have e3 : IntKind.i64.wrap (Int.tdiv (((b - a : Nat) : Int) - 1) 2) = (((b - a - 1) / 2 + 1 : Nat) : Int) - 1 := by
    rw [Int.tdiv_eq_ediv_of_nonneg (by omega), wI (by omega) (by omega)]; omega
  obtain ⟨g1, g2⟩ := heap_build (b - a) a 0 ((b - a - 1) / 2 + 1) d (by omega) (by omega) hs
  have g3 := heap_pop a (b - a) (heapBuild ltU (b - a) a ((b - a - 1) / 2 + 1) d) (by rw [g2]; omega) (by rw [g2]; exact hs)
  unfold s_heapSortO
  simp only [e1, e2, e3]
  refine (bndS (iterL_mono (m := loopN) g1 (by rw [loopN_eq]; omega))).trans ?_
  simp only [e2]
  exact (bndS (iterL_mono (m := loopN) g3 (by rw [loopN_eq]; omega))).trans rfl
end Go.Proofs.F

/- A part of a row turned round. -/
namespace Go.Proofs.F
open Go.Proofs.D Go.Sort

theorem rev_in : ∀ (k i j : Nat) (d : Array Int), j - i ≤ k → j < d.size → d.size < 1000000 → i < 1000000 →
    iterL s_reverseRangeO.l1 (k + 1) (((), ((i : Int), (j : Int))), (d.toList, ())) = some ((), ((reverseLoop i j d).toList, ())) ∧ (reverseLoop i j d).size = d.size := by
  intro k
  induction k with
  | zero =>
    intro i j d hk hj hs hi
    have hu : reverseLoop i j d = d := by rw [reverseLoop, if_neg (by omega)]
    refine ⟨iterL_done ?_, by rw [hu]⟩
    unfold s_reverseRangeO.l1
    simp only [dec_f (show ¬ (i : Int) < (j : Int) by omega), cond_false, hu]
  | succ k ih =>
    intro i j d hk hj hs hi
    by_cases h : i < j
    · have hu : reverseLoop i j d = reverseLoop (i + 1) (j - 1) (swp d i j) := by rw [reverseLoop, if_pos h]
      have e1 : IntKind.i64.wrap ((i : Int) + 1) = ((i + 1 : Nat) : Int) := succ_i64 (by omega)
      have e2 : IntKind.i64.wrap ((j : Int) - 1) = ((j - 1 : Nat) : Int) := by rw [wI (by omega) (by omega)]; omega
      have hstep : s_reverseRangeO.l1 (((), ((i : Int), (j : Int))), (d.toList, ())) = some (.inl (((), (((i + 1 : Nat) : Int), ((j - 1 : Nat) : Int))), ((swp d i j).toList, ()))) := by
        unfold s_reverseRangeO.l1
        simp only [dec_t (show (i : Int) < (j : Int) by omega), cond_true, e1, e2]
        rw [rd_A (show j < d.size by omega), rd_A (show i < d.size by omega)]
        exact sw_A (K := fun l => some (Sum.inl (((), (((i + 1 : Nat) : Int), ((j - 1 : Nat) : Int))), (l, ())))) (show i < d.size by omega) hj
      obtain ⟨g1, g2⟩ := ih (i + 1) (j - 1) (swp d i j) (by omega) (by rw [size_swp]; omega) (by rw [size_swp]; exact hs) (by omega)
      rw [hu]
      exact ⟨(iterL_next hstep).trans g1, by rw [g2, size_swp]⟩
    · have hu : reverseLoop i j d = d := by rw [reverseLoop, if_neg h]
      refine ⟨iterL_done ?_, by rw [hu]⟩
      unfold s_reverseRangeO.l1
      simp only [dec_f (show ¬ (i : Int) < (j : Int) by omega), cond_false, hu]
theorem rev_val (a b : Nat) (d : Array Int) (hab : a < b) (hb : b ≤ d.size) (hs : d.size < 1000000) : s_reverseRangeO () (a : Int) (b : Int) d.toList = some ((), ((reverseRange d a b).toList, ())) ∧ (reverseRange d a b).size = d.size := by
  have e1 : IntKind.i64.wrap ((b : Int) - 1) = ((b - 1 : Nat) : Int) := by rw [wI (by omega) (by omega)]; omega
  obtain ⟨g1, g2⟩ := rev_in (b - 1 - a) a (b - 1) d (Nat.le_refl _) (by omega) hs (by omega)
  refine ⟨?_, g2⟩
  unfold s_reverseRangeO
  rw [e1]
  exact (bndS (iterL_mono (m := loopN) g1 (by rw [loopN_eq]; omega))).trans rfl
end Go.Proofs.F

/- A part of a row that is nearly in order. -/
namespace Go.Proofs.F
open Go.Proofs.D Go.Sort

theorem scanI (a s : Int) (b : Nat) (d : Array Int) (hb : b ≤ d.size) (hs : d.size < 1000000) : ∀ (k i : Nat), b - i ≤ k → 1 ≤ i → i ≤ b →
    iterL s_partialInsertionSortO.l2 (k + 1) (((), (a, ((b : Int), ((i : Int), s)))), (d.toList, ())) = some (((), (a, ((b : Int), (((scanSorted ltU d b i : Nat) : Int), s)))), (d.toList, ())) ∧ i ≤ scanSorted ltU d b i ∧ scanSorted ltU d b i ≤ b := by
  intro k
  induction k with
  | zero =>
    intro i hk h1 hi
    have hu : scanSorted ltU d b i = i := by rw [scanSorted, if_neg (by simp; omega)]
    refine ⟨iterL_done ?_, by omega, by omega⟩
    unfold s_partialInsertionSortO.l2
    simp only [dec_f (show ¬ (i : Int) < (b : Int) by omega), cond_false, hu]
  | succ k ih =>
    intro i hk h1 hi
    have e1 : IntKind.i64.wrap ((i : Int) - 1) = ((i - 1 : Nat) : Int) := by rw [wI (by omega) (by omega)]; omega
    by_cases hc : (decide (i < b) && !ltU d[i]! d[i - 1]!) = true
    · have hu : scanSorted ltU d b i = scanSorted ltU d b (i + 1) := by rw [scanSorted, if_pos hc]
      simp only [Bool.and_eq_true, decide_eq_true_eq] at hc
      have hstep : s_partialInsertionSortO.l2 (((), (a, ((b : Int), ((i : Int), s)))), (d.toList, ())) = some (.inl (((), (a, ((b : Int), (((i + 1 : Nat) : Int), s)))), (d.toList, ()))) := by
        unfold s_partialInsertionSortO.l2
        simp only [dec_t (show (i : Int) < (b : Int) by omega), cond_true, e1]
        rw [rd_A (show i < d.size by omega), rd_A (show i - 1 < d.size by omega), lessU, Option.bind_some, hc.2, cond_true, succ_i64 (by omega)]
      obtain ⟨g1, g2, g3⟩ := ih (i + 1) (by omega) (by omega) (by omega)
      rw [hu]
      exact ⟨(iterL_next hstep).trans g1, by omega, g3⟩
    · have hu : scanSorted ltU d b i = i := by rw [scanSorted, if_neg hc]
      refine ⟨iterL_done ?_, by omega, by omega⟩
      unfold s_partialInsertionSortO.l2
      rw [hu]
      by_cases h : i < b
      · simp only [dec_t (show (i : Int) < (b : Int) by omega), cond_true, e1]
        have hf : (!ltU d[i]! d[i - 1]!) = false := by simpa [h] using hc
        rw [rd_A (show i < d.size by omega), rd_A (show i - 1 < d.size by omega), lessU, Option.bind_some, hf, cond_false]
      · simp only [dec_f (show ¬ (i : Int) < (b : Int) by omega), cond_false]
theorem shd_in (a b i s : Int) : ∀ (j : Nat) (d : Array Int), j < d.size → d.size < 1000000 →
    iterL s_partialInsertionSortO.l3 (j + 1) (((), (a, (b, (i, (s, (j : Int)))))), (d.toList, ())) = some (((), (a, (b, (i, s)))), ((shiftDown ltU j d).toList, ())) ∧ (shiftDown ltU j d).size = d.size
  | 0, d, hj, hs => by
    refine ⟨iterL_done ?_, rfl⟩
    unfold s_partialInsertionSortO.l3
    simp only [dec_f (show ¬ ((0 : Nat) : Int) ≥ 1 by omega), cond_false]
    rfl
  | j + 1, d, hj, hs => by
    have e1 : IntKind.i64.wrap (((j + 1 : Nat) : Int) - 1) = (j : Int) := pred_i64 (by omega)
    have hu : shiftDown ltU (j + 1) d = if (!ltU d[j + 1]! d[j]!) = true then d else shiftDown ltU j (swp d (j + 1) j) := rfl
    rw [hu]
    have hstep : s_partialInsertionSortO.l3 (((), (a, (b, (i, (s, ((j + 1 : Nat) : Int)))))), (d.toList, ())) = if (!ltU d[j + 1]! d[j]!) = true then some (.inr (((), (a, (b, (i, s)))), (d.toList, ()))) else some (.inl (((), (a, (b, (i, (s, (j : Int)))))), ((swp d (j + 1) j).toList, ()))) := by
      unfold s_partialInsertionSortO.l3
      simp only [dec_t (show ((j + 1 : Nat) : Int) ≥ 1 by omega), cond_true, e1]
      rw [rd_A hj, rd_A (show j < d.size by omega), lessU, Option.bind_some]
      cases hl : (!ltU d[j + 1]! d[j]!) with
      | true => simp
      | false =>
        rw [cond_false, rd_A (show j < d.size by omega), rd_A hj]
        refine (sw_A (K := fun l => some (Sum.inl (((), (a, (b, (i, (s, (j : Int)))))), (l, ())))) hj (show j < d.size by omega)).trans ?_
        simp
    by_cases hc : (!ltU d[j + 1]! d[j]!) = true
    · rw [if_pos hc] at hstep ⊢
      exact ⟨iterL_done hstep, rfl⟩
    · rw [if_neg hc] at hstep ⊢
      obtain ⟨g1, g2⟩ := shd_in a b i s j (swp d (j + 1) j) (by rw [size_swp]; omega) (by rw [size_swp]; exact hs)
      exact ⟨(iterL_next hstep).trans g1, by rw [g2, size_swp]⟩
theorem shu_in (a i s : Int) (b : Nat) : ∀ (k j : Nat) (d : Array Int), b - j ≤ k → 1 ≤ j → b ≤ d.size → d.size < 1000000 → j < 1000000 →
    iterL s_partialInsertionSortO.l4 (k + 1) (((), (a, ((b : Int), (i, (s, (j : Int)))))), (d.toList, ())) = some (((), (a, ((b : Int), (i, s)))), ((shiftUp ltU b j d).toList, ())) ∧ (shiftUp ltU b j d).size = d.size := by
  intro k
  induction k with
  | zero =>
    intro j d hk h1 hb hs hj
    have hu : shiftUp ltU b j d = d := by rw [shiftUp, if_neg (by omega)]
    refine ⟨iterL_done ?_, by rw [hu]⟩
    unfold s_partialInsertionSortO.l4
    simp only [dec_f (show ¬ (j : Int) < (b : Int) by omega), cond_false, hu]
  | succ k ih =>
    intro j d hk h1 hb hs hj
    have e1 : IntKind.i64.wrap ((j : Int) - 1) = ((j - 1 : Nat) : Int) := by rw [wI (by omega) (by omega)]; omega
    have hu : shiftUp ltU b j d = if j < b then (if (!ltU d[j]! d[j - 1]!) = true then d else shiftUp ltU b (j + 1) (swp d j (j - 1))) else d := by rw [shiftUp]
    rw [hu]
    by_cases h : j < b
    · rw [if_pos h]
      have hstep : s_partialInsertionSortO.l4 (((), (a, ((b : Int), (i, (s, (j : Int)))))), (d.toList, ())) = if (!ltU d[j]! d[j - 1]!) = true then some (.inr (((), (a, ((b : Int), (i, s)))), (d.toList, ()))) else some (.inl (((), (a, ((b : Int), (i, (s, ((j + 1 : Nat) : Int)))))), ((swp d j (j - 1)).toList, ()))) := by
        unfold s_partialInsertionSortO.l4
        simp only [dec_t (show (j : Int) < (b : Int) by omega), cond_true, e1]
        rw [rd_A (show j < d.size by omega), rd_A (show j - 1 < d.size by omega), lessU, Option.bind_some]
        cases hl : (!ltU d[j]! d[j - 1]!) with
        | true => simp
        | false =>
          rw [cond_false, rd_A (show j - 1 < d.size by omega), rd_A (show j < d.size by omega), succ_i64 (by omega)]
          refine (sw_A (K := fun l => some (Sum.inl (((), (a, ((b : Int), (i, (s, ((j + 1 : Nat) : Int)))))), (l, ())))) (show j < d.size by omega) (show j - 1 < d.size by omega)).trans ?_
          simp
      by_cases hc : (!ltU d[j]! d[j - 1]!) = true
      · rw [if_pos hc] at hstep ⊢
        exact ⟨iterL_done hstep, rfl⟩
      · rw [if_neg hc] at hstep ⊢
        obtain ⟨g1, g2⟩ := ih (j + 1) (swp d j (j - 1)) (by omega) (by omega) (by rw [size_swp]; exact hb) (by rw [size_swp]; exact hs) (by omega)
        exact ⟨(iterL_next hstep).trans g1, by rw [g2, size_swp]⟩
    · rw [if_neg h]
      refine ⟨iterL_done ?_, rfl⟩
      unfold s_partialInsertionSortO.l4
      simp only [dec_f (show ¬ (j : Int) < (b : Int) by omega), cond_false]
theorem pis_in (a b : Nat) (hs0 : b < 1000000) : ∀ (s i : Nat) (d : Array Int), s ≤ 5 → a + 1 ≤ i → i ≤ b → b ≤ d.size → d.size < 1000000 →
    ∃ r, iterL s_partialInsertionSortO.l1 (s + 1) (((), ((a : Int), ((b : Int), ((i : Int), 5 - (s : Int))))), (d.toList, ())) = some r ∧
      (match r with | .inl y => some (false, (y.2.1, ())) | .inr y => some (y.1, (y.2.1, ())) : Option (Bool × List Int × Unit)) = some ((partialIns ltU a b s i d).2, ((partialIns ltU a b s i d).1.toList, ())) ∧ (partialIns ltU a b s i d).1.size = d.size := by
  intro s
  induction s with
  | zero =>
    intro i d h5 h1 hi hb hs
    refine ⟨.inl ((), (d.toList, ())), iterL_done ?_, rfl, rfl⟩
    unfold s_partialInsertionSortO.l1
    simp only [dec_f (show ¬ (5 - ((0 : Nat) : Int)) < 5 by omega), cond_false]
  | succ s ih =>
    intro i d h5 h1 hi hb hs
    obtain ⟨g1, g2, g3⟩ := scanI (a : Int) (5 - ((s + 1 : Nat) : Int)) b d hb hs (b - i) i (Nat.le_refl _) (by omega) hi
    have g1' := iterL_mono (m := loopN) g1 (by rw [loopN_eq]; omega)
    have hu : partialIns ltU a b (s + 1) i d = (let i := scanSorted ltU d b i
      if i = b then (d, true) else
      if b - a < 50 then (d, false) else
      let d := swp d i (i - 1)
      let d := if i - a ≥ 2 then shiftDown ltU (i - 1) d else d
      let d := if b - i ≥ 2 then shiftUp ltU b (i + 1) d else d
      partialIns ltU a b s i d) := rfl
    generalize scanSorted ltU d b i = i2 at g1 g1' g2 g3 hu
    simp only at hu
    have hs1 : decide (5 - ((s + 1 : Nat) : Int) < 5) = true := dec_t (by omega)
    by_cases q1 : i2 = b
    · rw [if_pos q1] at hu
      rw [hu]
      refine ⟨.inr (true, (d.toList, ())), iterL_done ?_, rfl, rfl⟩
      unfold s_partialInsertionSortO.l1
      simp only [hs1, cond_true]
      refine (bndS g1').trans ?_
      subst q1
      simp
    · rw [if_neg q1] at hu
      have q1' : ((i2 : Int) == (b : Int)) = false := by simp; omega
      have eba : IntKind.i64.wrap ((b : Int) - (a : Int)) = ((b - a : Nat) : Int) := by rw [wI (by omega) (by omega)]; omega
      by_cases q2 : b - a < 50
      · rw [if_pos q2] at hu
        rw [hu]
        refine ⟨.inr (false, (d.toList, ())), iterL_done ?_, rfl, rfl⟩
        unfold s_partialInsertionSortO.l1
        simp only [hs1, cond_true]
        refine (bndS g1').trans ?_
        simp only [q1', cond_false, eba, dec_t (show ((b - a : Nat) : Int) < 50 by omega), cond_true]
      · rw [if_neg q2] at hu
        have e1 : IntKind.i64.wrap ((i2 : Int) - 1) = ((i2 - 1 : Nat) : Int) := by rw [wI (by omega) (by omega)]; omega
        have e2 : IntKind.i64.wrap ((i2 : Int) - (a : Int)) = ((i2 - a : Nat) : Int) := by rw [wI (by omega) (by omega)]; omega
        have e3 : IntKind.i64.wrap ((b : Int) - (i2 : Int)) = ((b - i2 : Nat) : Int) := by rw [wI (by omega) (by omega)]; omega
        have e4 : IntKind.i64.wrap ((i2 : Int) + 1) = ((i2 + 1 : Nat) : Int) := succ_i64 (by omega)
        have e5 : IntKind.i64.wrap (5 - ((s + 1 : Nat) : Int) + 1) = 5 - (s : Int) := by rw [wI (by omega) (by omega)]; omega
        -- the three texts behind the swap
        generalize hd1 : swp d i2 (i2 - 1) = d1 at hu
        have z1 : d1.size = d.size := by rw [← hd1, size_swp]
        generalize hd2 : (if i2 - a ≥ 2 then shiftDown ltU (i2 - 1) d1 else d1) = d2 at hu
        obtain ⟨f1, f2⟩ := shd_in (a : Int) (b : Int) (i2 : Int) (5 - ((s + 1 : Nat) : Int)) (i2 - 1) d1 (by omega) (by omega)
        have z2 : d2.size = d.size := by rw [← hd2]; split <;> omega
        generalize hd3 : (if b - i2 ≥ 2 then shiftUp ltU b (i2 + 1) d2 else d2) = d3 at hu
        obtain ⟨f3, f4⟩ := shu_in (a : Int) (i2 : Int) (5 - ((s + 1 : Nat) : Int)) b (b - (i2 + 1)) (i2 + 1) d2 (Nat.le_refl _) (by omega) (by omega) (by omega) (by omega)
        have z3 : d3.size = d.size := by rw [← hd3]; split <;> omega
        have f1' := iterL_mono (m := loopN) f1 (by rw [loopN_eq]; omega)
        have f3' := iterL_mono (m := loopN) f3 (by rw [loopN_eq]; omega)
        have hstep : s_partialInsertionSortO.l1 (((), ((a : Int), ((b : Int), ((i : Int), 5 - ((s + 1 : Nat) : Int))))), (d.toList, ())) = some (.inl (((), ((a : Int), ((b : Int), ((i2 : Int), 5 - (s : Int))))), (d3.toList, ()))) := by
          unfold s_partialInsertionSortO.l1
          simp only [hs1, cond_true]
          refine (bndS g1').trans ?_
          simp only [q1', cond_false, eba, dec_f (show ¬ ((b - a : Nat) : Int) < 50 by omega), e1, e2]
          rw [rd_A (show i2 - 1 < d.size by omega), rd_A (show i2 < d.size by omega)]
          refine (sw_A (K := fun l => ((bif decide (((i2 - a : Nat) : Int) ≥ 2) then (iterL s_partialInsertionSortO.l3 loopN (((), ((a : Int), ((b : Int), ((i2 : Int), (5 - ((s + 1 : Nat) : Int), ((i2 - 1 : Nat) : Int)))))), (l, ()))).bind fun y29 => some ((((), y29.1.2), (y29.2.1, ()))) else some ((((), ((a : Int), ((b : Int), ((i2 : Int), 5 - ((s + 1 : Nat) : Int))))), (l, ()))) : Option ((Unit × Int × Int × Int × Int) × List Int × Unit)).bind fun y30 => bif decide ((IntKind.i64.wrap (y30.1.2.2.1 - y30.1.2.2.2.1)) ≥ 2) then (iterL s_partialInsertionSortO.l4 loopN (((), (y30.1.2.1, (y30.1.2.2.1, (y30.1.2.2.2.1, (y30.1.2.2.2.2, IntKind.i64.wrap (y30.1.2.2.2.1 + 1)))))), (y30.2.1, ()))).bind fun y40 => some (Sum.inl (((), (y40.1.2.1, (y40.1.2.2.1, (y40.1.2.2.2.1, IntKind.i64.wrap (y40.1.2.2.2.2 + 1))))), (y40.2.1, ()))) else some (Sum.inl (((), (y30.1.2.1, (y30.1.2.2.1, (y30.1.2.2.2.1, IntKind.i64.wrap (y30.1.2.2.2.2 + 1))))), (y30.2.1, ()))))) (show i2 < d.size by omega) (show i2 - 1 < d.size by omega)).trans ?_
          rw [hd1]
          have hmid : (bif decide (((i2 - a : Nat) : Int) ≥ 2) then (iterL s_partialInsertionSortO.l3 loopN (((), ((a : Int), ((b : Int), ((i2 : Int), (5 - ((s + 1 : Nat) : Int), ((i2 - 1 : Nat) : Int)))))), (d1.toList, ()))).bind fun y29 => some ((((), y29.1.2), (y29.2.1, ()))) else some ((((), ((a : Int), ((b : Int), ((i2 : Int), 5 - ((s + 1 : Nat) : Int))))), (d1.toList, ()))) : Option ((Unit × Int × Int × Int × Int) × List Int × Unit)) = some ((((), ((a : Int), ((b : Int), ((i2 : Int), 5 - ((s + 1 : Nat) : Int))))), (d2.toList, ()))) := by
            rw [← hd2]
            by_cases q3 : i2 - a ≥ 2
            · rw [dec_t (show ((i2 - a : Nat) : Int) ≥ 2 by omega), cond_true, if_pos q3]
              exact bndS f1'
            · rw [dec_f (show ¬ ((i2 - a : Nat) : Int) ≥ 2 by omega), cond_false, if_neg q3]
          refine (bndS hmid).trans ?_
          simp only [e3, e4]
          rw [← hd3]
          by_cases q4 : b - i2 ≥ 2
          · rw [dec_t (show ((b - i2 : Nat) : Int) ≥ 2 by omega), cond_true, if_pos q4]
            refine (bndS f3').trans ?_
            simp only [e5]
          · rw [dec_f (show ¬ ((b - i2 : Nat) : Int) ≥ 2 by omega), cond_false, if_neg q4]
            simp only [e5]
        obtain ⟨r, r1, r2, r3⟩ := ih i2 d3 (by omega) (by omega) (by omega) (by omega) (by omega)
        rw [hu]
        exact ⟨r, (iterL_next hstep).trans r1, r2, by rw [r3, z3]⟩
theorem pis_val (a b : Nat) (d : Array Int) (hab : a < b) (hb : b ≤ d.size) (hs : d.size < 1000000) : s_partialInsertionSortO () (a : Int) (b : Int) d.toList = some ((partialInsertionSort ltU d a b).2, ((partialInsertionSort ltU d a b).1.toList, ())) ∧ (partialInsertionSort ltU d a b).1.size = d.size := by
  obtain ⟨r, r1, r2, r3⟩ := pis_in a b (by omega) 5 (a + 1) d (by omega) (by omega) (by omega) hb hs
  refine ⟨?_, r3⟩
  unfold s_partialInsertionSortO
  rw [succ_i64 (by omega)]
  exact (bndS (iterL_mono (m := loopN) r1 (by rw [loopN_eq]; omega))).trans r2
end Go.Proofs.F

/- A part of a row parted by one of its elements. -/
namespace Go.Proofs.F
open Go.Proofs.D Go.Sort

abbrev PartS := (Unit × Int × Int × Int) × List Int × Unit
abbrev ptS (a : Int) (i j : Nat) (d : Array Int) : PartS := (((), (a, ((i : Int), (j : Int)))), (d.toList, ()))
theorem up_in {f : PartS → Option (PartS ⊕ PartS)} {p : Int → Bool} {a : Int} {d : Array Int} {j : Nat}
    (hf : ∀ i : Nat, i < 1000000 → f (ptS a i j d) = if (decide (i ≤ j) && p d[i]!) = true then some (.inl (ptS a (i + 1) j d)) else some (.inr (ptS a i j d))) :
    ∀ (k i : Nat), j + 1 - i ≤ k → j < 900000 → i < 900002 → iterL f (k + 1) (ptS a i j d) = some (ptS a (scanUp p d j i) j d) ∧ i ≤ scanUp p d j i ∧ (scanUp p d j i ≤ i ∨ scanUp p d j i ≤ j + 1) := by
  intro k
  induction k with
  | zero =>
    intro i hk hj hi
    have hc : ¬ (decide (i ≤ j) && p d[i]!) = true := by simp; omega
    have hu : scanUp p d j i = i := by rw [scanUp, if_neg hc]
    have h := hf i (by omega)
    rw [if_neg hc] at h
    rw [hu]
    exact ⟨iterL_done h, by omega, .inl (by omega)⟩
  | succ k ih =>
    intro i hk hj hi
    have h := hf i (by omega)
    by_cases hc : (decide (i ≤ j) && p d[i]!) = true
    · rw [if_pos hc] at h
      have hu : scanUp p d j i = scanUp p d j (i + 1) := by rw [scanUp, if_pos hc]
      simp only [Bool.and_eq_true, decide_eq_true_eq] at hc
      obtain ⟨g1, g2, g3⟩ := ih (i + 1) (by omega) hj (by omega)
      rw [hu]
      exact ⟨(iterL_next h).trans g1, by omega, .inr (by omega)⟩
    · rw [if_neg hc] at h
      have hu : scanUp p d j i = i := by rw [scanUp, if_neg hc]
      rw [hu]
      exact ⟨iterL_done h, by omega, .inl (by omega)⟩
theorem down_in {f : PartS → Option (PartS ⊕ PartS)} {p : Int → Bool} {a : Int} {d : Array Int} {i : Nat} (h1 : 1 ≤ i)
    (hf : ∀ j : Nat, j < 900000 → j < d.size → f (ptS a i j d) = if (decide (i ≤ j) && p d[j]!) = true then some (.inl (ptS a i (j - 1) d)) else some (.inr (ptS a i j d))) :
    ∀ (j : Nat), j < 900000 → j < d.size → iterL f (j + 1) (ptS a i j d) = some (ptS a i (scanDown p d i j) d) ∧ scanDown p d i j ≤ j
  | 0, hj, hs => by
    have h := hf 0 hj hs
    rw [if_neg (by simp; omega)] at h
    exact ⟨iterL_done h, Nat.le_refl _⟩
  | j + 1, hj, hs => by
    have h := hf (j + 1) hj hs
    have hu : scanDown p d i (j + 1) = if (decide (i ≤ j + 1) && p d[j + 1]!) = true then scanDown p d i j else j + 1 := rfl
    rw [hu]
    by_cases hc : (decide (i ≤ j + 1) && p d[j + 1]!) = true
    · rw [if_pos hc] at h ⊢
      obtain ⟨g1, g2⟩ := down_in h1 hf j (by omega) (by omega)
      exact ⟨(iterL_next h).trans g1, by omega⟩
    · rw [if_neg hc] at h ⊢
      exact ⟨iterL_done h, Nat.le_refl _⟩

section
variable (a : Nat) (d : Array Int) (ha : a < d.size)
include ha
theorem p_up {j : Nat} (hj : j < d.size) (i : Nat) (hi : i < 1000000) : s_partitionO.l1 (ptS a i j d) = if (decide (i ≤ j) && ltU d[i]! d[a]!) = true then some (.inl (ptS a (i + 1) j d)) else some (.inr (ptS a i j d)) := by
  unfold s_partitionO.l1 ptS
  by_cases h : i ≤ j
  · simp only [dec_t (show (i : Int) ≤ (j : Int) by omega), cond_true]
    rw [rd_A (show i < d.size by omega), rd_A ha, lessU, Option.bind_some, succ_i64 (by omega)]
    cases ltU d[i]! d[a]! <;> simp [h]
  · simp only [dec_f (show ¬ (i : Int) ≤ (j : Int) by omega), cond_false]
    simp [h]
theorem p_down {i : Nat} (h1 : 1 ≤ i) (j : Nat) (hj : j < 900000) (hj2 : j < d.size) : s_partitionO.l2 (ptS a i j d) = if (decide (i ≤ j) && !ltU d[j]! d[a]!) = true then some (.inl (ptS a i (j - 1) d)) else some (.inr (ptS a i j d)) := by
  unfold s_partitionO.l2 ptS
  by_cases h : i ≤ j
  · have e1 : IntKind.i64.wrap ((j : Int) - 1) = ((j - 1 : Nat) : Int) := by rw [wI (by omega) (by omega)]; omega
    simp only [dec_t (show (i : Int) ≤ (j : Int) by omega), cond_true, e1]
    rw [rd_A hj2, rd_A ha, lessU, Option.bind_some]
    cases ltU d[j]! d[a]! <;> simp [h]
  · simp only [dec_f (show ¬ (i : Int) ≤ (j : Int) by omega), cond_false]
    simp [h]
theorem e_up {j : Nat} (hj : j < d.size) (i : Nat) (hi : i < 1000000) : s_partitionEqualO.l2 (ptS a i j d) = if (decide (i ≤ j) && !ltU d[a]! d[i]!) = true then some (.inl (ptS a (i + 1) j d)) else some (.inr (ptS a i j d)) := by
  unfold s_partitionEqualO.l2 ptS
  by_cases h : i ≤ j
  · simp only [dec_t (show (i : Int) ≤ (j : Int) by omega), cond_true]
    rw [rd_A ha, rd_A (show i < d.size by omega), lessU, Option.bind_some, succ_i64 (by omega)]
    cases ltU d[a]! d[i]! <;> simp [h]
  · simp only [dec_f (show ¬ (i : Int) ≤ (j : Int) by omega), cond_false]
    simp [h]
theorem e_down {i : Nat} (h1 : 1 ≤ i) (j : Nat) (hj : j < 900000) (hj2 : j < d.size) : s_partitionEqualO.l3 (ptS a i j d) = if (decide (i ≤ j) && ltU d[a]! d[j]!) = true then some (.inl (ptS a i (j - 1) d)) else some (.inr (ptS a i j d)) := by
  unfold s_partitionEqualO.l3 ptS
  by_cases h : i ≤ j
  · have e1 : IntKind.i64.wrap ((j : Int) - 1) = ((j - 1 : Nat) : Int) := by rw [wI (by omega) (by omega)]; omega
    simp only [dec_t (show (i : Int) ≤ (j : Int) by omega), cond_true, e1]
    rw [rd_A ha, rd_A hj2, lessU, Option.bind_some]
    cases ltU d[a]! d[j]! <;> simp [h]
  · simp only [dec_f (show ¬ (i : Int) ≤ (j : Int) by omega), cond_false]
    simp [h]
end
theorem partLoop_eq (a i j : Nat) (d : Array Int) (i2 j2 : Nat) (h1 : scanUp (fun x => ltU x d[a]!) d j i = i2) (h2 : scanDown (fun x => !ltU x d[a]!) d i2 j = j2) (hi : i ≤ i2) (hj : j2 ≤ j) (hp : 1 ≤ i) :
    partLoop ltU a i j d = if i2 > j2 then (j2, d) else partLoop ltU a (i2 + 1) (j2 - 1) (swp d i2 j2) := by
  rw [partLoop]
  simp only [h1, h2]
  by_cases h : i2 > j2
  · rw [if_pos h, if_pos h]
  · rw [if_neg h, if_neg h, dif_pos (by omega)]
theorem partEqLoop_eq (a i j : Nat) (d : Array Int) (i2 j2 : Nat) (h1 : scanUp (fun x => !ltU d[a]! x) d j i = i2) (h2 : scanDown (fun x => ltU d[a]! x) d i2 j = j2) (hi : i ≤ i2) (hj : j2 ≤ j) (hp : 1 ≤ i) :
    partEqLoop ltU a i j d = if i2 > j2 then (i2, d) else partEqLoop ltU a (i2 + 1) (j2 - 1) (swp d i2 j2) := by
  rw [partEqLoop]
  simp only [h1, h2]
  by_cases h : i2 > j2
  · rw [if_pos h, if_pos h]
  · rw [if_neg h, if_neg h, dif_pos (by omega)]
theorem part_in (a : Nat) : ∀ (k i j : Nat) (d : Array Int), j + 1 - i ≤ k → 1 ≤ i → i < 900002 → a < d.size → j < d.size → d.size < 900000 →
    iterL s_partitionO.l3 (k + 1) (ptS a i j d) = some (((), ((a : Int), ((partLoop ltU a i j d).1 : Int))), ((partLoop ltU a i j d).2.toList, ())) ∧ (partLoop ltU a i j d).2.size = d.size ∧ (partLoop ltU a i j d).1 ≤ j := by
  intro k
  induction k with
  | zero =>
    intro i j d hk h1 hi ha hj hs
    obtain ⟨g1, g2, g3⟩ := up_in (p := fun x => ltU x d[a]!) (p_up a d ha hj) (j + 1 - i) i (Nat.le_refl _) (by omega) hi
    generalize hq : scanUp (fun x => ltU x d[a]!) d j i = i2 at g1 g2 g3
    obtain ⟨f1, f2⟩ := down_in (p := fun x => !ltU x d[a]!) (i := i2) (by omega) (p_down a d ha (by omega)) j (by omega) hj
    generalize hq2 : scanDown (fun x => !ltU x d[a]!) d i2 j = j2 at f1 f2
    have hu := partLoop_eq a i j d i2 j2 hq hq2 g2 f2 h1
    rw [if_pos (by omega)] at hu
    rw [hu]
    refine ⟨iterL_done ?_, rfl, f2⟩
    unfold s_partitionO.l3
    refine (bndS (iterL_mono (m := loopN) g1 (by rw [loopN_eq]; omega))).trans ?_
    refine (bndS (iterL_mono (m := loopN) f1 (by rw [loopN_eq]; omega))).trans ?_
    simp only [ptS, dec_t (show (i2 : Int) > (j2 : Int) by omega), cond_true]
  | succ k ih =>
    intro i j d hk h1 hi ha hj hs
    obtain ⟨g1, g2, g3⟩ := up_in (p := fun x => ltU x d[a]!) (p_up a d ha hj) (j + 1 - i) i (Nat.le_refl _) (by omega) hi
    generalize hq : scanUp (fun x => ltU x d[a]!) d j i = i2 at g1 g2 g3
    obtain ⟨f1, f2⟩ := down_in (p := fun x => !ltU x d[a]!) (i := i2) (by omega) (p_down a d ha (by omega)) j (by omega) hj
    generalize hq2 : scanDown (fun x => !ltU x d[a]!) d i2 j = j2 at f1 f2
    have hu := partLoop_eq a i j d i2 j2 hq hq2 g2 f2 h1
    by_cases hc : i2 > j2
    · rw [if_pos hc] at hu
      rw [hu]
      refine ⟨iterL_done ?_, rfl, f2⟩
      unfold s_partitionO.l3
      refine (bndS (iterL_mono (m := loopN) g1 (by rw [loopN_eq]; omega))).trans ?_
      refine (bndS (iterL_mono (m := loopN) f1 (by rw [loopN_eq]; omega))).trans ?_
      simp only [ptS, dec_t (show (i2 : Int) > (j2 : Int) by omega), cond_true]
    · rw [if_neg hc] at hu
      have e1 : IntKind.i64.wrap ((j2 : Int) - 1) = ((j2 - 1 : Nat) : Int) := by rw [wI (by omega) (by omega)]; omega
      have e2 : IntKind.i64.wrap ((i2 : Int) + 1) = ((i2 + 1 : Nat) : Int) := succ_i64 (by omega)
      have hstep : s_partitionO.l3 (ptS a i j d) = some (.inl (ptS a (i2 + 1) (j2 - 1) (swp d i2 j2))) := by
        unfold s_partitionO.l3
        refine (bndS (iterL_mono (m := loopN) g1 (by rw [loopN_eq]; omega))).trans ?_
        refine (bndS (iterL_mono (m := loopN) f1 (by rw [loopN_eq]; omega))).trans ?_
        simp only [ptS, dec_f (show ¬ (i2 : Int) > (j2 : Int) by omega), cond_false, e1, e2]
        rw [rd_A (show j2 < d.size by omega), rd_A (show i2 < d.size by omega)]
        exact sw_A (K := fun l => some (Sum.inl (((), ((a : Int), (((i2 + 1 : Nat) : Int), ((j2 - 1 : Nat) : Int)))), (l, ())))) (show i2 < d.size by omega) (show j2 < d.size by omega)
      obtain ⟨r1, r2, r3⟩ := ih (i2 + 1) (j2 - 1) (swp d i2 j2) (by omega) (by omega) (by omega) (by rw [size_swp]; exact ha) (by rw [size_swp]; omega) (by rw [size_swp]; exact hs)
      rw [hu]
      exact ⟨(iterL_next hstep).trans r1, by rw [r2, size_swp], by omega⟩
theorem partEq_in (a : Nat) : ∀ (k i j : Nat) (d : Array Int), j + 1 - i ≤ k → 1 ≤ i → i < 900002 → a < d.size → j < d.size → d.size < 900000 →
    iterL s_partitionEqualO.l1 (k + 1) (ptS a i j d) = some (((partEqLoop ltU a i j d).1 : Int), ((partEqLoop ltU a i j d).2.toList, ())) ∧ (partEqLoop ltU a i j d).2.size = d.size := by
  intro k
  induction k with
  | zero =>
    intro i j d hk h1 hi ha hj hs
    obtain ⟨g1, g2, g3⟩ := up_in (p := fun x => !ltU d[a]! x) (e_up a d ha hj) (j + 1 - i) i (Nat.le_refl _) (by omega) hi
    generalize hq : scanUp (fun x => !ltU d[a]! x) d j i = i2 at g1 g2 g3
    obtain ⟨f1, f2⟩ := down_in (p := fun x => ltU d[a]! x) (i := i2) (by omega) (e_down a d ha (by omega)) j (by omega) hj
    generalize hq2 : scanDown (fun x => ltU d[a]! x) d i2 j = j2 at f1 f2
    have hu := partEqLoop_eq a i j d i2 j2 hq hq2 g2 f2 h1
    rw [if_pos (by omega)] at hu
    rw [hu]
    refine ⟨iterL_done ?_, rfl⟩
    unfold s_partitionEqualO.l1
    refine (bndS (iterL_mono (m := loopN) g1 (by rw [loopN_eq]; omega))).trans ?_
    refine (bndS (iterL_mono (m := loopN) f1 (by rw [loopN_eq]; omega))).trans ?_
    simp only [ptS, dec_t (show (i2 : Int) > (j2 : Int) by omega), cond_true]
  | succ k ih =>
    intro i j d hk h1 hi ha hj hs
    obtain ⟨g1, g2, g3⟩ := up_in (p := fun x => !ltU d[a]! x) (e_up a d ha hj) (j + 1 - i) i (Nat.le_refl _) (by omega) hi
    generalize hq : scanUp (fun x => !ltU d[a]! x) d j i = i2 at g1 g2 g3
    obtain ⟨f1, f2⟩ := down_in (p := fun x => ltU d[a]! x) (i := i2) (by omega) (e_down a d ha (by omega)) j (by omega) hj
    generalize hq2 : scanDown (fun x => ltU d[a]! x) d i2 j = j2 at f1 f2
    have hu := partEqLoop_eq a i j d i2 j2 hq hq2 g2 f2 h1
    by_cases hc : i2 > j2
    · rw [if_pos hc] at hu
      rw [hu]
      refine ⟨iterL_done ?_, rfl⟩
      unfold s_partitionEqualO.l1
      refine (bndS (iterL_mono (m := loopN) g1 (by rw [loopN_eq]; omega))).trans ?_
      refine (bndS (iterL_mono (m := loopN) f1 (by rw [loopN_eq]; omega))).trans ?_
      simp only [ptS, dec_t (show (i2 : Int) > (j2 : Int) by omega), cond_true]
    · rw [if_neg hc] at hu
      have e1 : IntKind.i64.wrap ((j2 : Int) - 1) = ((j2 - 1 : Nat) : Int) := by rw [wI (by omega) (by omega)]; omega
      have e2 : IntKind.i64.wrap ((i2 : Int) + 1) = ((i2 + 1 : Nat) : Int) := succ_i64 (by omega)
      have hstep : s_partitionEqualO.l1 (ptS a i j d) = some (.inl (ptS a (i2 + 1) (j2 - 1) (swp d i2 j2))) := by
        unfold s_partitionEqualO.l1
        refine (bndS (iterL_mono (m := loopN) g1 (by rw [loopN_eq]; omega))).trans ?_
        refine (bndS (iterL_mono (m := loopN) f1 (by rw [loopN_eq]; omega))).trans ?_
        simp only [ptS, dec_f (show ¬ (i2 : Int) > (j2 : Int) by omega), cond_false, e1, e2]
        rw [rd_A (show j2 < d.size by omega), rd_A (show i2 < d.size by omega)]
        exact sw_A (K := fun l => some (Sum.inl (((), ((a : Int), (((i2 + 1 : Nat) : Int), ((j2 - 1 : Nat) : Int)))), (l, ())))) (show i2 < d.size by omega) (show j2 < d.size by omega)
      obtain ⟨r1, r2⟩ := ih (i2 + 1) (j2 - 1) (swp d i2 j2) (by omega) (by omega) (by omega) (by rw [size_swp]; exact ha) (by rw [size_swp]; omega) (by rw [size_swp]; exact hs)
      rw [hu]
      exact ⟨(iterL_next hstep).trans r1, by rw [r2, size_swp]⟩
theorem partEq_val (a b p : Nat) (d : Array Int) (hap : a ≤ p) (hpb : p < b) (hb : b ≤ d.size) (hs : d.size < 900000) :
    s_partitionEqualO () (a : Int) (b : Int) (p : Int) d.toList = some (((partitionEqual ltU d a b p).1 : Int), ((partitionEqual ltU d a b p).2.toList, ())) ∧ (partitionEqual ltU d a b p).2.size = d.size := by
  have e1 : IntKind.i64.wrap ((b : Int) - 1) = ((b - 1 : Nat) : Int) := by rw [wI (by omega) (by omega)]; omega
  have e2 : IntKind.i64.wrap ((a : Int) + 1) = ((a + 1 : Nat) : Int) := succ_i64 (by omega)
  obtain ⟨r1, r2⟩ := partEq_in a (b - 1 + 1 - (a + 1)) (a + 1) (b - 1) (swp d a p) (Nat.le_refl _) (by omega) (by omega) (by rw [size_swp]; omega) (by rw [size_swp]; omega) (by rw [size_swp]; exact hs)
  refine ⟨?_, by unfold partitionEqual; rw [r2, size_swp]⟩
  unfold s_partitionEqualO
  rw [e1, e2, rd_A (show p < d.size by omega), rd_A (show a < d.size by omega)]
  refine (sw_A (K := fun l => (iterL s_partitionEqualO.l1 loopN (((), ((a : Int), (((a + 1 : Nat) : Int), ((b - 1 : Nat) : Int)))), (l, ()))).bind fun y37 => some (y37.1, (y37.2.1, ()))) (show a < d.size by omega) (show p < d.size by omega)).trans ?_
  exact (bndS (iterL_mono (m := loopN) r1 (by rw [loopN_eq]; omega))).trans rfl
theorem part_val (a b p : Nat) (d : Array Int) (hap : a ≤ p) (hpb : p < b) (hb : b ≤ d.size) (hs : d.size < 900000) :
    s_partitionO () (a : Int) (b : Int) (p : Int) d.toList = some ((((partition ltU d a b p).1 : Int), ((partition ltU d a b p).2.1, ())), ((partition ltU d a b p).2.2.toList, ())) ∧ (partition ltU d a b p).2.2.size = d.size := by
  have e1 : IntKind.i64.wrap ((b : Int) - 1) = ((b - 1 : Nat) : Int) := by rw [wI (by omega) (by omega)]; omega
  have e2 : IntKind.i64.wrap ((a : Int) + 1) = ((a + 1 : Nat) : Int) := succ_i64 (by omega)
  have hu : partition ltU d a b p = (let d := swp d a p
    let i := scanUp (fun x => ltU x d[a]!) d (b - 1) (a + 1)
    let j := scanDown (fun x => !ltU x d[a]!) d i (b - 1)
    if i > j then (j, true, swp d j a) else
      let r := partLoop ltU a (i + 1) (j - 1) (swp d i j)
      (r.1, false, swp r.2 r.1 a)) := rfl
  have z1 : (swp d a p).size = d.size := size_swp ..
  unfold s_partitionO
  rw [e1, e2, rd_A (show p < d.size by omega), rd_A (show a < d.size by omega)]
  generalize hd1 : swp d a p = d1 at hu z1
  simp only at hu
  obtain ⟨g1, g2, g3⟩ := up_in (p := fun x => ltU x d1[a]!) (p_up a d1 (by omega) (show b - 1 < d1.size by omega)) (b - 1 + 1 - (a + 1)) (a + 1) (Nat.le_refl _) (by omega) (by omega)
  generalize hq : scanUp (fun x => ltU x d1[a]!) d1 (b - 1) (a + 1) = i2 at g1 g2 g3 hu
  obtain ⟨f1, f2⟩ := down_in (p := fun x => !ltU x d1[a]!) (i := i2) (by omega) (p_down a d1 (by omega) (by omega)) (b - 1) (by omega) (by omega)
  generalize hq2 : scanDown (fun x => !ltU x d1[a]!) d1 i2 (b - 1) = j2 at f1 f2 hu
  have g1' := iterL_mono (m := loopN) g1 (by rw [loopN_eq]; omega)
  have f1' := iterL_mono (m := loopN) f1 (by rw [loopN_eq]; omega)
  refine And.imp_left (fun h => (sw_A (K := fun l => (iterL s_partitionO.l1 loopN (((), ((a : Int), (((a + 1 : Nat) : Int), ((b - 1 : Nat) : Int)))), (l, ()))).bind fun y30 => (iterL s_partitionO.l2 loopN (((), y30.1.2), (y30.2.1, ()))).bind fun y34 => bif decide (y34.1.2.2.1 > y34.1.2.2.2) then chk (decide (0 ≤ y34.1.2.1) && decide (y34.1.2.1 < (y34.2.1.length : Int))) (nthK y34.2.1 y34.1.2.1 fun e35 => chk (decide (0 ≤ y34.1.2.2.2) && decide (y34.1.2.2.2 < (y34.2.1.length : Int))) (nthK y34.2.1 y34.1.2.2.2 fun e36 => chk (decide (0 ≤ y34.1.2.2.2) && decide (y34.1.2.2.2 < (y34.2.1.length : Int))) (natK y34.1.2.2.2 fun n37 => nthN y34.2.1 n37 fun e38 => chk (decide (0 ≤ y34.1.2.1) && decide (y34.1.2.1 < ((y34.2.1.set n37 e35).length : Int))) (natK y34.1.2.1 fun n39 => nthN (y34.2.1.set n37 e35) n39 fun e40 => some ((y34.1.2.2.2, (true, ())), ((y34.2.1.set n37 e35).set n39 e36, ())))))) else chk (decide (0 ≤ y34.1.2.2.2) && decide (y34.1.2.2.2 < (y34.2.1.length : Int))) (nthK y34.2.1 y34.1.2.2.2 fun e41 => chk (decide (0 ≤ y34.1.2.2.1) && decide (y34.1.2.2.1 < (y34.2.1.length : Int))) (nthK y34.2.1 y34.1.2.2.1 fun e42 => chk (decide (0 ≤ y34.1.2.2.1) && decide (y34.1.2.2.1 < (y34.2.1.length : Int))) (natK y34.1.2.2.1 fun n43 => nthN y34.2.1 n43 fun e44 => chk (decide (0 ≤ y34.1.2.2.2) && decide (y34.1.2.2.2 < ((y34.2.1.set n43 e41).length : Int))) (natK y34.1.2.2.2 fun n45 => nthN (y34.2.1.set n43 e41) n45 fun e46 => (iterL s_partitionO.l3 loopN (((), (y34.1.2.1, (IntKind.i64.wrap (y34.1.2.2.1 + 1), IntKind.i64.wrap (y34.1.2.2.2 - 1)))), ((y34.2.1.set n43 e41).set n45 e42, ()))).bind fun y61 => chk (decide (0 ≤ y61.1.2.1) && decide (y61.1.2.1 < (y61.2.1.length : Int))) (nthK y61.2.1 y61.1.2.1 fun e62 => chk (decide (0 ≤ y61.1.2.2) && decide (y61.1.2.2 < (y61.2.1.length : Int))) (nthK y61.2.1 y61.1.2.2 fun e63 => chk (decide (0 ≤ y61.1.2.2) && decide (y61.1.2.2 < (y61.2.1.length : Int))) (natK y61.1.2.2 fun n64 => nthN y61.2.1 n64 fun e65 => chk (decide (0 ≤ y61.1.2.1) && decide (y61.1.2.1 < ((y61.2.1.set n64 e62).length : Int))) (natK y61.1.2.1 fun n66 => nthN (y61.2.1.set n64 e62) n66 fun e67 => some ((y61.1.2.2, (false, ())), ((y61.2.1.set n64 e62).set n66 e63, ()))))))))))) (show a < d.size by omega) (show p < d.size by omega)).trans h) ?_
  rw [hd1]
  refine And.imp_left (fun h => (bndS g1').trans h) ?_
  refine And.imp_left (fun h => (bndS f1').trans h) ?_
  by_cases hc : i2 > j2
  · rw [if_pos hc] at hu
    simp only [ptS, dec_t (show (i2 : Int) > (j2 : Int) by omega), cond_true]
    rw [rd_A (show a < d1.size by omega), rd_A (show j2 < d1.size by omega), hu]
    exact ⟨sw_A (K := fun l => some (((j2 : Int), (true, ())), (l, ()))) (show j2 < d1.size by omega) (show a < d1.size by omega), by rw [size_swp]; omega⟩
  · rw [if_neg hc] at hu
    have e3 : IntKind.i64.wrap ((j2 : Int) - 1) = ((j2 - 1 : Nat) : Int) := by rw [wI (by omega) (by omega)]; omega
    have e4 : IntKind.i64.wrap ((i2 : Int) + 1) = ((i2 + 1 : Nat) : Int) := succ_i64 (by omega)
    simp only [ptS, dec_f (show ¬ (i2 : Int) > (j2 : Int) by omega), cond_false, e3, e4]
    rw [rd_A (show j2 < d1.size by omega), rd_A (show i2 < d1.size by omega)]
    have z2 : (swp d1 i2 j2).size = d1.size := size_swp ..
    obtain ⟨r1, r2, r3⟩ := part_in a (j2 - 1 + 1 - (i2 + 1)) (i2 + 1) (j2 - 1) (swp d1 i2 j2) (Nat.le_refl _) (by omega) (by omega) (by omega) (by omega) (by omega)
    generalize partLoop ltU a (i2 + 1) (j2 - 1) (swp d1 i2 j2) = r at hu r1 r2 r3
    refine ⟨?_, by rw [hu]; simp only; rw [size_swp]; omega⟩
    refine (sw_A (K := fun l => (iterL s_partitionO.l3 loopN (((), ((a : Int), (((i2 + 1 : Nat) : Int), ((j2 - 1 : Nat) : Int)))), (l, ()))).bind fun y61 => chk (decide (0 ≤ y61.1.2.1) && decide (y61.1.2.1 < (y61.2.1.length : Int))) (nthK y61.2.1 y61.1.2.1 fun e62 => chk (decide (0 ≤ y61.1.2.2) && decide (y61.1.2.2 < (y61.2.1.length : Int))) (nthK y61.2.1 y61.1.2.2 fun e63 => chk (decide (0 ≤ y61.1.2.2) && decide (y61.1.2.2 < (y61.2.1.length : Int))) (natK y61.1.2.2 fun n64 => nthN y61.2.1 n64 fun e65 => chk (decide (0 ≤ y61.1.2.1) && decide (y61.1.2.1 < ((y61.2.1.set n64 e62).length : Int))) (natK y61.1.2.1 fun n66 => nthN (y61.2.1.set n64 e62) n66 fun e67 => some ((y61.1.2.2, (false, ())), ((y61.2.1.set n64 e62).set n66 e63, ()))))))) (show i2 < d1.size by omega) (show j2 < d1.size by omega)).trans ?_
    refine (bndS (iterL_mono (m := loopN) r1 (by rw [loopN_eq]; omega))).trans ?_
    simp only
    rw [rd_A (show a < r.2.size by omega), rd_A (show r.1 < r.2.size by omega), hu]
    exact sw_A (K := fun l => some (((r.1 : Int), (false, ())), (l, ()))) (show r.1 < r.2.size by omega) (show a < r.2.size by omega)
end Go.Proofs.F

/- The pivot that is chosen; patterns broken. -/
namespace Go.Proofs.F
open Go.Proofs.D Go.Sort

theorem rdv_A {R : Type} {d : Array Int} {i : Nat} {K : Int → Option R} (h : i < d.size) : nthK d.toList (i : Int) K = K d[i]! := nthK_get (get_A h)
theorem order2_val (d : Array Int) (a b s : Nat) (ha : a < d.size) (hb : b < d.size) (hs : s < 1000) :
    s_order2O d.toList (a : Int) (b : Int) () (s : Int) = some ((((order2 ltU d a b s).1 : Int), (((order2 ltU d a b s).2.1 : Int), ())), (((order2 ltU d a b s).2.2 : Int), ()))
    ∧ (order2 ltU d a b s).1 < d.size ∧ (order2 ltU d a b s).2.1 < d.size ∧ (order2 ltU d a b s).2.2 ≤ s + 1 := by
  unfold s_order2O order2
  rw [rdv_A hb, rdv_A ha, lessU, Option.bind_some]
  cases ltU d[b]! d[a]! with
  | false => simp [ha, hb]
  | true => rw [cond_true, succ_i64 (by omega)]; simp [ha, hb]
theorem median_val (d : Array Int) (a b c s : Nat) (ha : a < d.size) (hb : b < d.size) (hc : c < d.size) (hs : s < 900) :
    s_medianO d.toList (a : Int) (b : Int) (c : Int) () (s : Int) = some (((median ltU d a b c s).1 : Int), (((median ltU d a b c s).2 : Int), ()))
    ∧ (median ltU d a b c s).1 < d.size ∧ (median ltU d a b c s).2 ≤ s + 3 := by
  have hu : median ltU d a b c s = (let r1 := order2 ltU d a b s
    let r2 := order2 ltU d r1.2.1 c r1.2.2
    let r3 := order2 ltU d r1.1 r2.1 r2.2.2
    (r3.2.1, r3.2.2)) := rfl
  simp only at hu
  obtain ⟨a1, a2, a3, a4⟩ := order2_val d a b s ha hb (by omega)
  generalize order2 ltU d a b s = r1 at hu a1 a2 a3 a4
  obtain ⟨b1, b2, b3, b4⟩ := order2_val d r1.2.1 c r1.2.2 a3 hc (by omega)
  generalize order2 ltU d r1.2.1 c r1.2.2 = r2 at hu b1 b2 b3 b4
  obtain ⟨c1, c2, c3, c4⟩ := order2_val d r1.1 r2.1 r2.2.2 a2 b2 (by omega)
  generalize order2 ltU d r1.1 r2.1 r2.2.2 = r3 at hu c1 c2 c3 c4
  rw [hu]
  refine ⟨?_, c3, by simp only; omega⟩
  unfold s_medianO
  exact (bndS a1).trans ((bndS b1).trans ((bndS c1).trans rfl))
theorem medAdj_val (d : Array Int) (a s : Nat) (ha : 1 ≤ a) (hb : a + 1 < d.size) (hs : s < 900) (hz : d.size < 900000) :
    s_medianAdjacentO d.toList (a : Int) () (s : Int) = some (((medianAdjacent ltU d a s).1 : Int), (((medianAdjacent ltU d a s).2 : Int), ()))
    ∧ (medianAdjacent ltU d a s).1 < d.size ∧ (medianAdjacent ltU d a s).2 ≤ s + 3 := by
  have e1 : IntKind.i64.wrap ((a : Int) - 1) = ((a - 1 : Nat) : Int) := by rw [wI (by omega) (by omega)]; omega
  obtain ⟨g1, g2, g3⟩ := median_val d (a - 1) a (a + 1) s (by omega) (by omega) (by omega) hs
  refine ⟨?_, g2, g3⟩
  unfold s_medianAdjacentO
  rw [e1, succ_i64 (by omega)]
  exact (bndS g1).trans rfl
def hintZ : Hint → Int | .unknown => 0 | .increasing => 1 | .decreasing => 2
theorem hint_end (m : Int) (s : Nat) : (bif ((s : Int) : Int) == 0 then some (m, ((1 : Int), ())) else bif ((s : Int) : Int) == 12 then some (m, (2, ())) else some (m, (0, ()))) = some (m, (hintZ (if s = 0 then .increasing else if s = 12 then .decreasing else .unknown), ())) := by
  by_cases h : s = 0
  · subst h; rfl
  · have h1 : ((s : Int) == 0) = false := by simp; omega
    rw [h1, cond_false, if_neg h]
    by_cases h2 : s = 12
    · subst h2; rfl
    · have h3 : ((s : Int) == 12) = false := by simp; omega
      rw [h3, cond_false, if_neg h2]; rfl
theorem choose_val (d : Array Int) (a b : Nat) (hab : a < b) (hb : b ≤ d.size) (hz : d.size < 900000) :
    s_choosePivotO d.toList (a : Int) (b : Int) = some (((choosePivot ltU d a b).1 : Int), (hintZ (choosePivot ltU d a b).2, ())) := by
  have e1 : IntKind.i64.wrap ((b : Int) - (a : Int)) = ((b - a : Nat) : Int) := by rw [wI (by omega) (by omega)]; omega
  have e2 : IntKind.i64.wrap (Int.tdiv ((b - a : Nat) : Int) 4) = (((b - a) / 4 : Nat) : Int) := by rw [Int.tdiv_eq_ediv_of_nonneg (by omega), wI (by omega) (by omega)]; omega
  have e3 : IntKind.i64.wrap ((a : Int) + IntKind.i64.wrap ((((b - a) / 4 : Nat) : Int) * 1)) = ((a + (b - a) / 4 * 1 : Nat) : Int) := by rw [wI (n := _ * 1) (by omega) (by omega), wI (by omega) (by omega)]; omega
  have e4 : IntKind.i64.wrap ((a : Int) + IntKind.i64.wrap ((((b - a) / 4 : Nat) : Int) * 2)) = ((a + (b - a) / 4 * 2 : Nat) : Int) := by rw [wI (n := _ * 2) (by omega) (by omega), wI (by omega) (by omega)]; omega
  have e5 : IntKind.i64.wrap ((a : Int) + IntKind.i64.wrap ((((b - a) / 4 : Nat) : Int) * 3)) = ((a + (b - a) / 4 * 3 : Nat) : Int) := by rw [wI (n := _ * 3) (by omega) (by omega), wI (by omega) (by omega)]; omega
  have hu : choosePivot ltU d a b = (let l := b - a
    let i := a + l / 4 * 1
    let j := a + l / 4 * 2
    let k := a + l / 4 * 3
    let r : Nat × Nat :=
      if l ≥ 8 then
        if l ≥ 50 then
          let ri := medianAdjacent ltU d i 0
          let rj := medianAdjacent ltU d j ri.2
          let rk := medianAdjacent ltU d k rj.2
          median ltU d ri.1 rj.1 rk.1 rk.2
        else median ltU d i j k 0
      else (j, 0)
    (r.1, if r.2 = 0 then .increasing else if r.2 = 12 then .decreasing else .unknown)) := rfl
  simp only at hu
  unfold s_choosePivotO
  simp only [e1, e2, e3, e4, e5]
  rw [hu]
  by_cases h8 : b - a ≥ 8
  · rw [dec_t (show ((b - a : Nat) : Int) ≥ 8 by omega), cond_true]
    simp only [if_pos h8]
    by_cases h50 : b - a ≥ 50
    · rw [dec_t (show ((b - a : Nat) : Int) ≥ 50 by omega), cond_true]
      simp only [if_pos h50]
      obtain ⟨p1, p2, p3⟩ := medAdj_val d (a + (b - a) / 4 * 1) 0 (by omega) (by omega) (by omega) hz
      generalize medianAdjacent ltU d (a + (b - a) / 4 * 1) 0 = ri at p1 p2 p3 ⊢
      obtain ⟨q1, q2, q3⟩ := medAdj_val d (a + (b - a) / 4 * 2) ri.2 (by omega) (by omega) (by omega) hz
      generalize medianAdjacent ltU d (a + (b - a) / 4 * 2) ri.2 = rj at q1 q2 q3 ⊢
      obtain ⟨s1, s2, s3⟩ := medAdj_val d (a + (b - a) / 4 * 3) rj.2 (by omega) (by omega) (by omega) hz
      generalize medianAdjacent ltU d (a + (b - a) / 4 * 3) rj.2 = rk at s1 s2 s3 ⊢
      obtain ⟨t1, t2, t3⟩ := median_val d ri.1 rj.1 rk.1 rk.2 p2 q2 s2 (by omega)
      generalize median ltU d ri.1 rj.1 rk.1 rk.2 = rm at t1 t2 t3 ⊢
      exact (bndS p1).trans ((bndS q1).trans ((bndS s1).trans ((bndS t1).trans (hint_end _ _))))
    · rw [dec_f (show ¬ ((b - a : Nat) : Int) ≥ 50 by omega), cond_false]
      simp only [if_neg h50]
      obtain ⟨t1, t2, t3⟩ := median_val d (a + (b - a) / 4 * 1) (a + (b - a) / 4 * 2) (a + (b - a) / 4 * 3) 0 (by omega) (by omega) (by omega) (by omega)
      generalize median ltU d (a + (b - a) / 4 * 1) (a + (b - a) / 4 * 2) (a + (b - a) / 4 * 3) 0 = rm at t1 t2 t3 ⊢
      exact (bndS t1).trans (hint_end _ _)
  · rw [dec_f (show ¬ ((b - a : Nat) : Int) ≥ 8 by omega), cond_false]
    simp only [if_neg h8]
    rfl

/-! Patterns broken: rows of less than 128. -/
theorem bitsLen_chk : ((List.range 128).all fun n => decide (bits_Len (n : Int) = some ((bitsLen n : Nat) : Int))) = true := by kernel_rfl
theorem bits_Len_val (n : Nat) (h : n < 128) : bits_Len (n : Int) = some ((bitsLen n : Nat) : Int) := by
  have := List.all_eq_true.1 bitsLen_chk n (List.mem_range.2 h)
  exact of_decide_eq_true this
def rndOk (L : Nat) (r : Int) (u : UInt64) : Bool :=
  let m := 1 <<< bitsLen L
  let v := xorNext u
  let o := v.toNat &&& (m - 1)
  decide (s_xorshift_Next () r = some ((v.toNat : Int), ((v.toNat : Int), ()))) && decide (IntKind.i64.wrap (bitsAnd .u64 (v.toNat : Int) (IntKind.u64.wrap ((m : Int) - 1))) = (o : Int)) && decide (o < 2 * L)
theorem rnd_chk : ((List.range 128).all fun L => decide (L < 8) || (rndOk L (L : Int) (UInt64.ofNat L) && rndOk L ((xorNext (UInt64.ofNat L)).toNat : Int) (xorNext (UInt64.ofNat L)) && rndOk L ((xorNext (xorNext (UInt64.ofNat L))).toNat : Int) (xorNext (xorNext (UInt64.ofNat L))))) = true := by kernel_rfl
end Go.Proofs.F

/- Patterns broken. -/
namespace Go.Proofs.F
open Go.Proofs.D Go.Sort

theorem brk_size (a L m : Nat) (st : UInt64 × Array Int) (i : Nat) : (breakStep a L m st i).2.size = st.2.size := by
  unfold breakStep; exact size_swp ..
theorem brk_step (a L i : Nat) (d : Array Int) (r : Int) (u : UInt64) (hr : rndOk L r u = true) (hL8 : 8 ≤ L) (hL : L < 128) (hb : a + L ≤ d.size) (hi : i < d.size) (hz : d.size < 900000) (hi2 : i ≤ a + L / 4 * 2 + 1) :
    s_breakPatternsO.l1 (((), ((a : Int), ((L : Int), ((), (((1 <<< bitsLen L : Nat) : Int), (i : Int)))))), (d.toList, (r, ()))) =
      some (.inl (((), ((a : Int), ((L : Int), ((), (((1 <<< bitsLen L : Nat) : Int), ((i + 1 : Nat) : Int)))))), ((breakStep a L (1 <<< bitsLen L) (u, d) i).2.toList, (((breakStep a L (1 <<< bitsLen L) (u, d) i).1.toNat : Int), ())))) := by
  unfold rndOk at hr
  simp only [Bool.and_eq_true, decide_eq_true_eq] at hr
  obtain ⟨⟨h1, h2⟩, h3⟩ := hr
  have e2 : IntKind.i64.wrap (Int.tdiv (L : Int) 4) = ((L / 4 : Nat) : Int) := by rw [Int.tdiv_eq_ediv_of_nonneg (by omega), wI (by omega) (by omega)]; omega
  have e4 : IntKind.i64.wrap (IntKind.i64.wrap ((a : Int) + IntKind.i64.wrap (((L / 4 : Nat) : Int) * 2)) + 1) = ((a + L / 4 * 2 + 1 : Nat) : Int) := by rw [wI (n := _ * 2) (by omega) (by omega), wI (n := (a : Int) + _) (by omega) (by omega), wI (by omega) (by omega)]; omega
  have hu : breakStep a L (1 <<< bitsLen L) (u, d) i = (xorNext u, swp d i (a + (if (xorNext u).toNat &&& (1 <<< bitsLen L - 1) ≥ L then ((xorNext u).toNat &&& (1 <<< bitsLen L - 1)) - L else (xorNext u).toNat &&& (1 <<< bitsLen L - 1)))) := rfl
  rw [hu]
  generalize 1 <<< bitsLen L = m at h2 h3 ⊢
  generalize xorNext u = v at h1 h2 h3 ⊢
  generalize v.toNat &&& (m - 1) = o at h2 h3 ⊢
  unfold s_breakPatternsO.l1
  simp only [e2, e4, dec_t (show (i : Int) ≤ ((a + L / 4 * 2 + 1 : Nat) : Int) by omega), cond_true]
  refine (bndS h1).trans ?_
  simp only [h2]
  by_cases ho : o ≥ L
  · have e5 : IntKind.i64.wrap ((a : Int) + IntKind.i64.wrap ((o : Int) - (L : Int))) = ((a + (o - L) : Nat) : Int) := by rw [wI (n := (o : Int) - _) (by omega) (by omega), wI (by omega) (by omega)]; omega
    rw [dec_t (show (o : Int) ≥ (L : Int) by omega), cond_true, if_pos ho]
    simp only [e5]
    rw [rd_A (show a + (o - L) < d.size by omega), rd_A hi, succ_i64 (by omega)]
    exact sw_A (K := fun l => some (Sum.inl (((), ((a : Int), ((L : Int), ((), ((m : Int), ((i + 1 : Nat) : Int)))))), (l, ((v.toNat : Int), ()))))) hi (show a + (o - L) < d.size by omega)
  · have e5 : IntKind.i64.wrap ((a : Int) + (o : Int)) = ((a + o : Nat) : Int) := by rw [wI (by omega) (by omega)]; omega
    rw [dec_f (show ¬ (o : Int) ≥ (L : Int) by omega), cond_false, if_neg ho]
    simp only [e5]
    rw [rd_A (show a + o < d.size by omega), rd_A hi, succ_i64 (by omega)]
    exact sw_A (K := fun l => some (Sum.inl (((), ((a : Int), ((L : Int), ((), ((m : Int), ((i + 1 : Nat) : Int)))))), (l, ((v.toNat : Int), ()))))) hi (show a + o < d.size by omega)
theorem pow_wrap (L : Nat) (hL : L < 128) : IntKind.u64.wrap (1 * 2 ^ (min (((bitsLen L : Nat) : Int)).toNat 64)) = ((1 <<< bitsLen L : Nat) : Int) := by
  have h : ((List.range 128).all fun L => decide (IntKind.u64.wrap (1 * 2 ^ (min (((bitsLen L : Nat) : Int)).toNat 64)) = ((1 <<< bitsLen L : Nat) : Int))) = true := by kernel_rfl
  exact of_decide_eq_true (List.all_eq_true.1 h L (List.mem_range.2 hL))
theorem break_val (a b : Nat) (d : Array Int) (hab : a ≤ b) (hb : b ≤ d.size) (hz : d.size < 900000) (h128 : b - a < 128) :
    s_breakPatternsO () (a : Int) (b : Int) d.toList = some ((), ((breakPatterns d a b).toList, ())) ∧ (breakPatterns d a b).size = d.size := by
  have e1 : IntKind.i64.wrap ((b : Int) - (a : Int)) = ((b - a : Nat) : Int) := by rw [wI (by omega) (by omega)]; omega
  have hu : breakPatterns d a b = if b - a ≥ 8 then (breakStep a (b - a) (1 <<< bitsLen (b - a)) (breakStep a (b - a) (1 <<< bitsLen (b - a)) (breakStep a (b - a) (1 <<< bitsLen (b - a)) (UInt64.ofNat (b - a), d) (a + (b - a) / 4 * 2 - 1)) (a + (b - a) / 4 * 2 - 1 + 1)) (a + (b - a) / 4 * 2 - 1 + 2)).2 else d := rfl
  unfold s_breakPatternsO
  simp only [e1]
  rw [hu]
  generalize hL : b - a = L at *
  by_cases h8 : L ≥ 8
  · rw [if_pos h8, dec_t (show (L : Int) ≥ 8 by omega), cond_true]
    have hr := List.all_eq_true.1 rnd_chk L (List.mem_range.2 h128)
    rw [dec_f (show ¬ L < 8 by omega)] at hr
    simp only [Bool.false_or, Bool.and_eq_true] at hr
    obtain ⟨⟨r1, r2⟩, r3⟩ := hr
    have ew : IntKind.u64.wrap (L : Int) = (L : Int) := by
      have h : ((List.range 128).all fun L => decide (IntKind.u64.wrap (L : Int) = (L : Int))) = true := by kernel_rfl
      exact of_decide_eq_true (List.all_eq_true.1 h L (List.mem_range.2 h128))
    have hp : s_nextPowerOfTwo (L : Int) = some ((1 <<< bitsLen L : Nat) : Int) := by
      unfold s_nextPowerOfTwo
      rw [ew, bits_Len_val L h128, Option.bind_some, chk_true (by simp), pow_wrap L h128]
    refine And.imp_left (fun h => (bndS hp).trans h) ?_
    have e2 : IntKind.i64.wrap (Int.tdiv (L : Int) 4) = ((L / 4 : Nat) : Int) := by rw [Int.tdiv_eq_ediv_of_nonneg (by omega), wI (by omega) (by omega)]; omega
    have e4 : IntKind.i64.wrap (IntKind.i64.wrap ((a : Int) + IntKind.i64.wrap (((L / 4 : Nat) : Int) * 2)) - 1) = ((a + L / 4 * 2 - 1 : Nat) : Int) := by rw [wI (n := _ * 2) (by omega) (by omega), wI (n := (a : Int) + _) (by omega) (by omega), wI (by omega) (by omega)]; omega
    have e5 : IntKind.i64.wrap (IntKind.i64.wrap ((a : Int) + IntKind.i64.wrap (((L / 4 : Nat) : Int) * 2)) + 1) = ((a + L / 4 * 2 + 1 : Nat) : Int) := by rw [wI (n := _ * 2) (by omega) (by omega), wI (n := (a : Int) + _) (by omega) (by omega), wI (by omega) (by omega)]; omega
    simp only [e2, e4, ew]
    have s1 := brk_step a L (a + L / 4 * 2 - 1) d _ _ r1 h8 h128 (by omega) (by omega) hz (by omega)
    have z1 := brk_size a L (1 <<< bitsLen L) (UInt64.ofNat L, d) (a + L / 4 * 2 - 1)
    have x1 : (breakStep a L (1 <<< bitsLen L) (UInt64.ofNat L, d) (a + L / 4 * 2 - 1)).1 = xorNext (UInt64.ofNat L) := rfl
    generalize breakStep a L (1 <<< bitsLen L) (UInt64.ofNat L, d) (a + L / 4 * 2 - 1) = t1 at s1 z1 x1 ⊢
    simp only at z1
    rw [← x1] at r2 r3
    have s2 := brk_step a L (a + L / 4 * 2 - 1 + 1) t1.2 _ _ r2 h8 h128 (by omega) (by omega) (by omega) (by omega)
    have z2 := brk_size a L (1 <<< bitsLen L) (t1.1, t1.2) (a + L / 4 * 2 - 1 + 1)
    have x2 : (breakStep a L (1 <<< bitsLen L) (t1.1, t1.2) (a + L / 4 * 2 - 1 + 1)).1 = xorNext t1.1 := rfl
    rw [show breakStep a L (1 <<< bitsLen L) t1 (a + L / 4 * 2 - 1 + 1) = breakStep a L (1 <<< bitsLen L) (t1.1, t1.2) (a + L / 4 * 2 - 1 + 1) from rfl]
    generalize breakStep a L (1 <<< bitsLen L) (t1.1, t1.2) (a + L / 4 * 2 - 1 + 1) = t2 at s2 z2 x2 ⊢
    simp only at z2
    rw [← x2] at r3
    have s3 := brk_step a L (a + L / 4 * 2 - 1 + 1 + 1) t2.2 _ _ r3 h8 h128 (by omega) (by omega) (by omega) (by omega)
    have z3 := brk_size a L (1 <<< bitsLen L) (t2.1, t2.2) (a + L / 4 * 2 - 1 + 1 + 1)
    rw [show breakStep a L (1 <<< bitsLen L) t2 (a + L / 4 * 2 - 1 + 2) = breakStep a L (1 <<< bitsLen L) (t2.1, t2.2) (a + L / 4 * 2 - 1 + 1 + 1) from rfl]
    generalize breakStep a L (1 <<< bitsLen L) (t2.1, t2.2) (a + L / 4 * 2 - 1 + 1 + 1) = t3 at s3 z3 ⊢
    simp only at z3
    have s4 : s_breakPatternsO.l1 (((), ((a : Int), ((L : Int), ((), (((1 <<< bitsLen L : Nat) : Int), ((a + L / 4 * 2 - 1 + 1 + 1 + 1 : Nat) : Int)))))), (t3.2.toList, ((t3.1.toNat : Int), ()))) = some (.inr ((), (t3.2.toList, ()))) := by
      unfold s_breakPatternsO.l1
      simp only [e2, e5, dec_f (show ¬ ((a + L / 4 * 2 - 1 + 1 + 1 + 1 : Nat) : Int) ≤ ((a + L / 4 * 2 + 1 : Nat) : Int) by omega), cond_false]
    have it : iterL s_breakPatternsO.l1 4 (((), ((a : Int), ((L : Int), ((), (((1 <<< bitsLen L : Nat) : Int), ((a + L / 4 * 2 - 1 : Nat) : Int)))))), (d.toList, ((L : Int), ()))) = some ((), (t3.2.toList, ())) :=
      (iterL_next s1).trans ((iterL_next s2).trans ((iterL_next s3).trans (iterL_done s4)))
    exact ⟨(bndS (iterL_mono (m := loopN) it (by rw [loopN_eq]; omega))).trans rfl, by omega⟩
  · rw [if_neg h8, dec_f (show ¬ (L : Int) ≥ 8 by omega), cond_false]
    exact ⟨rfl, rfl⟩
end Go.Proofs.F

/- A round of the sort in place, stage by stage (printed by tools/pdqgen.py). -/
namespace Go.Proofs.F
open Go.Proofs.D
def pS1 (v : (Unit × Int × Int × Int × Bool × Bool) × List Int × Unit) : Option ((Unit × Int × Int × Int × Bool × Bool × Int) × List Int × Unit) :=
  bif !v.1.2.2.2.2.1 then (s_breakPatternsO () v.1.2.1 v.1.2.2.1 v.2.1).bind fun r24 => some ((((), (v.1.2.1, (v.1.2.2.1, (IntKind.i64.wrap (v.1.2.2.2.1 - 1), (v.1.2.2.2.2.1, (v.1.2.2.2.2.2, IntKind.i64.wrap (v.1.2.2.1 - v.1.2.1))))))), (r24.2.1, ()))) else some ((((), (v.1.2.1, (v.1.2.2.1, (v.1.2.2.2.1, (v.1.2.2.2.2.1, (v.1.2.2.2.2.2, IntKind.i64.wrap (v.1.2.2.1 - v.1.2.1))))))), (v.2.1, ())))
def pS3 (y25 : (Unit × Int × Int × Int × Bool × Bool × Int) × List Int × Unit) (r26 : Int × Int × Unit) : Option ((Unit × Int × Int × Int × Bool × Bool × Int × Int × Int) × List Int × Unit) :=
  bif (r26.2.1 : Int) == 2 then (s_reverseRangeO () y25.1.2.1 y25.1.2.2.1 y25.2.1).bind fun r27 => some ((((), (y25.1.2.1, (y25.1.2.2.1, (y25.1.2.2.2.1, (y25.1.2.2.2.2.1, (y25.1.2.2.2.2.2.1, (y25.1.2.2.2.2.2.2, (IntKind.i64.wrap ((IntKind.i64.wrap (y25.1.2.2.1 - 1)) - (IntKind.i64.wrap (r26.1 - y25.1.2.1))), 1)))))))), (r27.2.1, ()))) else some ((((), (y25.1.2.1, (y25.1.2.2.1, (y25.1.2.2.2.1, (y25.1.2.2.2.2.1, (y25.1.2.2.2.2.2.1, (y25.1.2.2.2.2.2.2, (r26.1, r26.2.1)))))))), (y25.2.1, ())))
def pS4 (y28 : (Unit × Int × Int × Int × Bool × Bool × Int × Int × Int) × List Int × Unit) : Option (((Unit × Int × Int × Int × Bool × Bool × Int × Int) × List Int × Unit) ⊕ (Unit × List Int × Unit)) :=
  bif y28.1.2.2.2.2.1 then bif y28.1.2.2.2.2.2.1 then bif (y28.1.2.2.2.2.2.2.2.2 : Int) == 1 then (s_partialInsertionSortO () y28.1.2.1 y28.1.2.2.1 y28.2.1).bind fun r29 => bif r29.1 then some (Sum.inr ((), (r29.2.1, ()))) else some (Sum.inl (((), (y28.1.2.1, (y28.1.2.2.1, (y28.1.2.2.2.1, (y28.1.2.2.2.2.1, (y28.1.2.2.2.2.2.1, (y28.1.2.2.2.2.2.2.1, y28.1.2.2.2.2.2.2.2.1))))))), (r29.2.1, ()))) else some (Sum.inl (((), (y28.1.2.1, (y28.1.2.2.1, (y28.1.2.2.2.1, (y28.1.2.2.2.2.1, (y28.1.2.2.2.2.2.1, (y28.1.2.2.2.2.2.2.1, y28.1.2.2.2.2.2.2.2.1))))))), (y28.2.1, ()))) else some (Sum.inl (((), (y28.1.2.1, (y28.1.2.2.1, (y28.1.2.2.2.1, (y28.1.2.2.2.2.1, (y28.1.2.2.2.2.2.1, (y28.1.2.2.2.2.2.2.1, y28.1.2.2.2.2.2.2.2.1))))))), (y28.2.1, ()))) else some (Sum.inl (((), (y28.1.2.1, (y28.1.2.2.1, (y28.1.2.2.2.1, (y28.1.2.2.2.2.1, (y28.1.2.2.2.2.2.1, (y28.1.2.2.2.2.2.2.1, y28.1.2.2.2.2.2.2.2.1))))))), (y28.2.1, ())))
def pS5 (y31 : (Unit × Int × Int × Int × Bool × Bool × Int × Int) × List Int × Unit) : Option (((Unit × Int × Int × Int × Int × Int) × List Int × Unit) ⊕ ((Unit × Int × Int × Int × Bool × Bool) × List Int × Unit)) :=
  bif decide (y31.1.2.1 > 0) then chk (decide (0 ≤ (IntKind.i64.wrap (y31.1.2.1 - 1))) && decide ((IntKind.i64.wrap (y31.1.2.1 - 1)) < (y31.2.1.length : Int))) (nthK y31.2.1 (IntKind.i64.wrap (y31.1.2.1 - 1)) fun e33 => chk (decide (0 ≤ y31.1.2.2.2.2.2.2.2) && decide (y31.1.2.2.2.2.2.2.2 < (y31.2.1.length : Int))) (nthK y31.2.1 y31.1.2.2.2.2.2.2.2 fun e34 => (cmp_Less_uint32 e33 e34).bind fun r35 => bif !r35 then (s_partitionEqualO () y31.1.2.1 y31.1.2.2.1 y31.1.2.2.2.2.2.2.2 y31.2.1).bind fun r36 => some (Sum.inr (((), (r36.1, (y31.1.2.2.1, (y31.1.2.2.2.1, (y31.1.2.2.2.2.1, y31.1.2.2.2.2.2.1))))), (r36.2.1, ()))) else some (Sum.inl (((), (y31.1.2.1, (y31.1.2.2.1, (y31.1.2.2.2.1, y31.1.2.2.2.2.2.2)))), (y31.2.1, ()))))) else some (Sum.inl (((), (y31.1.2.1, (y31.1.2.2.1, (y31.1.2.2.2.1, y31.1.2.2.2.2.2.2)))), (y31.2.1, ())))
def pS6 (inner : Unit → Int → Int → Int → List Int → Option (Unit × List Int × Unit)) (y38 : (Unit × Int × Int × Int × Int × Int) × List Int × Unit) : Option (((Unit × Int × Int × Int × Bool × Bool) × List Int × Unit) ⊕ (Unit × List Int × Unit)) :=
  (s_partitionO () y38.1.2.1 y38.1.2.2.1 y38.1.2.2.2.2.2 y38.2.1).bind fun r40 => bif decide ((IntKind.i64.wrap (r40.1.1 - y38.1.2.1)) < (IntKind.i64.wrap (y38.1.2.2.1 - r40.1.1))) then (inner () y38.1.2.1 r40.1.1 y38.1.2.2.2.1 r40.2.1).bind fun r41 => some (Sum.inl (((), (IntKind.i64.wrap (r40.1.1 + 1), (y38.1.2.2.1, (y38.1.2.2.2.1, (decide ((IntKind.i64.wrap (r40.1.1 - y38.1.2.1)) ≥ (IntKind.i64.wrap (Int.tdiv y38.1.2.2.2.2.1 8))), r40.1.2.1))))), (r41.2.1, ()))) else (inner () (IntKind.i64.wrap (r40.1.1 + 1)) y38.1.2.2.1 y38.1.2.2.2.1 r40.2.1).bind fun r42 => some (Sum.inl (((), (y38.1.2.1, (r40.1.1, (y38.1.2.2.2.1, (decide ((IntKind.i64.wrap (y38.1.2.2.1 - r40.1.1)) ≥ (IntKind.i64.wrap (Int.tdiv y38.1.2.2.2.2.1 8))), r40.1.2.1))))), (r42.2.1, ())))
def pdqStep (inner : Unit → Int → Int → Int → List Int → Option (Unit × List Int × Unit)) (v : (Unit × Int × Int × Int × Bool × Bool) × List Int × Unit) : Option (((Unit × Int × Int × Int × Bool × Bool) × List Int × Unit) ⊕ (Unit × List Int × Unit)) :=
  bif decide ((IntKind.i64.wrap (v.1.2.2.1 - v.1.2.1)) ≤ 12) then (s_insertionSortO () v.1.2.1 v.1.2.2.1 v.2.1).bind fun r22 => some (Sum.inr ((), (r22.2.1, ()))) else bif (v.1.2.2.2.1 : Int) == 0 then (s_heapSortO () v.1.2.1 v.1.2.2.1 v.2.1).bind fun r23 => some (Sum.inr ((), (r23.2.1, ()))) else (pS1 v).bind fun y25 => (s_choosePivotO y25.2.1 y25.1.2.1 y25.1.2.2.1).bind fun r26 => (pS3 y25 r26).bind fun y28 => (pS4 y28).bind fun y30 => (match y30 with | .inl y31 => (pS5 y31).bind fun y37 => (match y37 with | .inl y38 => pS6 inner y38 | .inr y39 => some (Sum.inl (((), y39.1.2), (y39.2.1, ())))) | .inr y32 => some (Sum.inr ((), (y32.2.1, ()))))
theorem pdqStep_l : s_pdqsortO.l1 = pdqStep s_pdqsortO_v2 := by kernel_rfl
theorem pdqStep_l_v2 : s_pdqsortO_v2.l1 = pdqStep s_pdqsortO_v3 := by kernel_rfl
theorem pdqStep_l_v3 : s_pdqsortO_v3.l1 = pdqStep s_pdqsortO_v4 := by kernel_rfl
theorem pdqStep_l_v4 : s_pdqsortO_v4.l1 = pdqStep s_pdqsortO_v5 := by kernel_rfl
theorem pdqStep_l_v5 : s_pdqsortO_v5.l1 = pdqStep (fun _ _ _ _ _ => none) := by kernel_rfl
end Go.Proofs.F

/- The sort in place is the kit's. -/
namespace Go.Proofs.F
open Go.Proofs.D Go.Sort

theorem sub_i64 {a b : Nat} (h : a ≤ b) (hb : b < 1000000) : IntKind.i64.wrap ((b : Int) - (a : Int)) = ((b - a : Nat) : Int) := by rw [wI (by omega) (by omega)]; omega
theorem pS1_val (a b lim : Nat) (wb wp : Bool) (d : Array Int) (hab : a ≤ b) (hb : b ≤ d.size) (hz : d.size < 900000) (h128 : b - a < 128) (hl : lim ≠ 0) (hl2 : lim < 1000) :
    pS1 (((), ((a : Int), ((b : Int), ((lim : Int), (wb, wp))))), (d.toList, ())) = some (((), ((a : Int), ((b : Int), (((rd ltU d a b lim wb wp).lim : Int), (wb, (wp, ((b - a : Nat) : Int))))))), ((rd ltU d a b lim wb wp).d1.toList, ())) := by
  have e1 := sub_i64 hab (show b < 1000000 by omega)
  unfold pS1
  cases wb with
  | true => simp only [Bool.not_true, cond_false, e1]; rfl
  | false =>
    simp only [Bool.not_false, cond_true, e1]
    refine (bndS (break_val a b d hab hb hz h128).1).trans ?_
    have e2 : IntKind.i64.wrap ((lim : Int) - 1) = ((lim - 1 : Nat) : Int) := by rw [wI (by omega) (by omega)]; omega
    rw [e2]; rfl
theorem pS3_val (a b lim : Nat) (wb wp : Bool) (d : Array Int) (l2 : Int) (hab : a < b) (hb : (rd ltU d a b lim wb wp).d1.size = d.size) (hb2 : b ≤ d.size) (hz : d.size < 900000) (hc : a ≤ (rd ltU d a b lim wb wp).c.1 ∧ (rd ltU d a b lim wb wp).c.1 < b) :
    pS3 (((), ((a : Int), ((b : Int), (l2, (wb, (wp, ((b - a : Nat) : Int))))))), ((rd ltU d a b lim wb wp).d1.toList, ())) (((rd ltU d a b lim wb wp).c.1 : Int), (hintZ (rd ltU d a b lim wb wp).c.2, ())) =
      some (((), ((a : Int), ((b : Int), (l2, (wb, (wp, (((b - a : Nat) : Int), (((rd ltU d a b lim wb wp).pivot : Int), hintZ (rd ltU d a b lim wb wp).hint)))))))), ((rd ltU d a b lim wb wp).d2.toList, ())) := by
  unfold pS3
  by_cases hh : (rd ltU d a b lim wb wp).c.2 = .decreasing
  · obtain ⟨q1, q2, q3⟩ := rd_dec hh
    rw [q1, q2, q3, hh]
    have e0 : (hintZ .decreasing == 2) = true := rfl
    simp only [e0, cond_true]
    generalize (rd ltU d a b lim wb wp).c.1 = c at hc ⊢
    generalize (rd ltU d a b lim wb wp).d1 = d1 at hb ⊢
    refine (bndS (rev_val a b d1 hab (by omega) (by omega)).1).trans ?_
    have e1 : IntKind.i64.wrap ((b : Int) - 1) = ((b - 1 : Nat) : Int) := by rw [wI (by omega) (by omega)]; omega
    rw [e1, sub_i64 hc.1 (by omega), sub_i64 (show c - a ≤ b - 1 by omega) (by omega)]
    rfl
  · obtain ⟨q1, q2, q3⟩ := rd_not hh
    rw [q1, q2, q3]
    have e0 : (hintZ (rd ltU d a b lim wb wp).c.2 == 2) = false := by
      cases h : (rd ltU d a b lim wb wp).c.2 with
      | unknown => rfl
      | increasing => rfl
      | decreasing => exact absurd h hh
    simp only [e0, cond_false]
theorem pS4_val (a b lim : Nat) (wb wp : Bool) (d : Array Int) (l2 p : Int) (hab : a < b) (hb : (rd ltU d a b lim wb wp).d2.size = d.size) (hb2 : b ≤ d.size) (hz : d.size < 900000) :
    pS4 (((), ((a : Int), ((b : Int), (l2, (wb, (wp, (((b - a : Nat) : Int), (p, hintZ (rd ltU d a b lim wb wp).hint)))))))), ((rd ltU d a b lim wb wp).d2.toList, ())) =
      some (if (rd ltU d a b lim wb wp).pi.2 = true then .inr ((), ((rd ltU d a b lim wb wp).pi.1.toList, ())) else .inl (((), ((a : Int), ((b : Int), (l2, (wb, (wp, (((b - a : Nat) : Int), p))))))), ((rd ltU d a b lim wb wp).pi.1.toList, ()))) := by
  unfold pS4
  by_cases hc : (wb && wp && decide ((rd ltU d a b lim wb wp).hint = .increasing)) = true
  · rw [rd_pi_yes hc]
    simp only [Bool.and_eq_true, decide_eq_true_eq] at hc
    obtain ⟨⟨q1, q2⟩, q3⟩ := hc
    subst q1 q2
    rw [q3]
    have e0 : (hintZ .increasing == 1) = true := rfl
    simp only [e0, cond_true]
    refine (bndS (pis_val a b _ hab (by omega) (by omega)).1).trans ?_
    cases (partialInsertionSort ltU (rd ltU d a b lim true true).d2 a b).2 <;> rfl
  · rw [rd_pi_no (by simpa using hc)]
    have hx : ∀ {R : Type} (x y : R), (bif wb then bif wp then bif hintZ (rd ltU d a b lim wb wp).hint == 1 then x else y else y else y) = y := by
      intro R x y
      cases h1 : wb with
      | false => rfl
      | true =>
        cases h2 : wp with
        | false => rfl
        | true =>
          rw [h1, h2] at hc
          cases h3 : (rd ltU d a b lim true true).hint with
          | increasing => rw [h3] at hc; simp at hc
          | unknown => rfl
          | decreasing => rfl
    exact hx _ _
theorem pS5_val (a b : Nat) (l2 L : Int) (wb wp : Bool) (p : Nat) (d : Array Int) (hap : a ≤ p) (hpb : p < b) (hb : b ≤ d.size) (hz : d.size < 900000) :
    pS5 (((), ((a : Int), ((b : Int), (l2, (wb, (wp, (L, (p : Int)))))))), (d.toList, ())) =
      some (if (decide (a > 0) && !ltU d[a - 1]! d[p]!) = true then .inr (((), (((partitionEqual ltU d a b p).1 : Int), ((b : Int), (l2, (wb, wp))))), ((partitionEqual ltU d a b p).2.toList, ())) else .inl (((), ((a : Int), ((b : Int), (l2, (L, (p : Int)))))), (d.toList, ()))) := by
  unfold pS5
  by_cases h : a > 0
  · have e1 : IntKind.i64.wrap ((a : Int) - 1) = ((a - 1 : Nat) : Int) := by rw [wI (by omega) (by omega)]; omega
    simp only [dec_t (show (a : Int) > 0 by omega), cond_true, e1]
    rw [rd_A (show a - 1 < d.size by omega), rd_A (show p < d.size by omega), lessU, Option.bind_some]
    cases hl : ltU d[a - 1]! d[p]! with
    | true => simp [h]
    | false =>
      simp only [Bool.not_false, cond_true]
      refine (bndS (partEq_val a b p d hap hpb hb hz).1).trans ?_
      simp [h]
  · simp only [dec_f (show ¬ (a : Int) > 0 by omega), cond_false]
    simp [h]

/-- What a call of itself may be asked. -/
def InnerOk (c : Nat) (inner : Unit → Int → Int → Int → List Int → Option (Unit × List Int × Unit)) : Prop := ∀ (d : Array Int) (a b lim : Nat), a ≤ b → b ≤ d.size → d.size < 900000 → b - a < 128 → b - a < c → lim < 1000 → Below ltU a b d →
  inner () (a : Int) (b : Int) (lim : Int) d.toList = some ((), ((pdq ltU d a b lim true true).toList, ()))
theorem pdq_in (inner) (c : Nat) (hin : InnerOk c inner) : ∀ (n a b lim : Nat) (wb wp : Bool) (d : Array Int), b - a ≤ n → a ≤ b → b ≤ d.size → d.size < 900000 → b - a < 128 → (b - a ≤ 12 ∨ b - a < 2 * c) → lim < 1000 → Below ltU a b d →
    iterL (pdqStep inner) (n + 1) (((), ((a : Int), ((b : Int), ((lim : Int), (wb, wp))))), (d.toList, ())) = some ((), ((pdq ltU d a b lim wb wp).toList, ())) := by
  intro n
  induction n with
  | zero =>
    intro a b lim wb wp d hn hab hb hz h128 hc hl hB
    refine iterL_done ?_
    unfold pdqStep
    have e1 := sub_i64 hab (show b < 1000000 by omega)
    simp only [e1, dec_t (show ((b - a : Nat) : Int) ≤ 12 by omega), cond_true]
    refine (bndS (ins_val a b d hb (by omega) (by omega))).trans ?_
    rw [pdq_small (by omega)]
  | succ n ih =>
    intro a b lim wb wp d hn hab hb hz h128 hc hl hB
    have e1 := sub_i64 hab (show b < 1000000 by omega)
    by_cases h12 : b - a ≤ 12
    · refine iterL_done ?_
      unfold pdqStep
      simp only [e1, dec_t (show ((b - a : Nat) : Int) ≤ 12 by omega), cond_true]
      refine (bndS (ins_val a b d hb (by omega) (by omega))).trans ?_
      rw [pdq_small h12]
    · by_cases h0 : lim = 0
      · refine iterL_done ?_
        unfold pdqStep
        subst h0
        simp only [e1, dec_f (show ¬ ((b - a : Nat) : Int) ≤ 12 by omega), cond_false]
        refine (bndS (heap_val a b d (by omega) hb (by omega))).trans ?_
        rw [pdq_heap h12 rfl]
      · have e0 : ((lim : Int) == 0) = false := by simp; omega
        obtain ⟨f1, f2, f3, f4, f5, f6, f7, f8⟩ := rd_facts (limit := lim) (wb := wb) (wp := wp) swo_ltInt partialInsertionSort_holds reverseRange_holds (show a < b by omega) hb hB
        have t1 := pS1_val a b lim wb wp d hab hb hz h128 h0 hl
        have t2 := choose_val (rd ltU d a b lim wb wp).d1 a b (by omega) (by rw [f1]; exact hb) (by rw [f1]; exact hz)
        rw [← rd_c] at t2
        have t3 := pS3_val a b lim wb wp d ((rd ltU d a b lim wb wp).lim : Int) (by omega) f1 hb hz f3
        have t4 := pS4_val a b lim wb wp d ((rd ltU d a b lim wb wp).lim : Int) ((rd ltU d a b lim wb wp).pivot : Int) (by omega) f4 hb hz
        have t5 := pS5_val a b ((rd ltU d a b lim wb wp).lim : Int) ((b - a : Nat) : Int) wb wp (rd ltU d a b lim wb wp).pivot (rd ltU d a b lim wb wp).pi.1 f6.1 f6.2 (by rw [f7]; exact hb) (by rw [f7]; exact hz)
        have hlim := rd_lim_le (lt := ltU) (d := d) (a := a) (b := b) (limit := lim) (wb := wb) (wp := wp)
        have hgo : ∀ {X} , (pdqStep inner (((), ((a : Int), ((b : Int), ((lim : Int), (wb, wp))))), (d.toList, ())) = X) ↔ ((pS4 (((), ((a : Int), ((b : Int), (((rd ltU d a b lim wb wp).lim : Int), (wb, (wp, (((b - a : Nat) : Int), (((rd ltU d a b lim wb wp).pivot : Int), hintZ (rd ltU d a b lim wb wp).hint)))))))), ((rd ltU d a b lim wb wp).d2.toList, ()))).bind fun y30 => (match y30 with | .inl y31 => (pS5 y31).bind fun y37 => (match y37 with | .inl y38 => pS6 inner y38 | .inr y39 => some (Sum.inl (((), y39.1.2), (y39.2.1, ())))) | .inr y32 => some (Sum.inr ((), (y32.2.1, ()))))) = X := by
          intro X
          unfold pdqStep
          simp only [e1, dec_f (show ¬ ((b - a : Nat) : Int) ≤ 12 by omega), cond_false, e0]
          rw [t1, Option.bind_some]
          simp only
          rw [t2, Option.bind_some, t3, Option.bind_some]
          all_goals exact Iff.rfl
        cases hpi : (rd ltU d a b lim wb wp).pi.2 with
        | true =>
          refine iterL_done (hgo.2 ?_)
          rw [t4, Option.bind_some, if_pos hpi, pdq_done h12 h0 hpi]
        | false =>
          rw [if_neg (by rw [hpi]; exact Bool.false_ne_true)] at t4
          cases hpe : (decide (a > 0) && !ltU (rd ltU d a b lim wb wp).pi.1[a - 1]! (rd ltU d a b lim wb wp).pi.1[(rd ltU d a b lim wb wp).pivot]!) with
          | true =>
            rw [if_pos hpe] at t5
            have hpe' := hpe
            simp only [Bool.and_eq_true, decide_eq_true_eq, Bool.not_eq_true'] at hpe'
            obtain ⟨g1, g2, g3, g4, g5⟩ := round_eq (d4 := (partitionEqual ltU (rd ltU d a b lim wb wp).pi.1 a b (rd ltU d a b lim wb wp).pivot).2) (mid := (partitionEqual ltU (rd ltU d a b lim wb wp).pi.1 a b (rd ltU d a b lim wb wp).pivot).1) swo_ltInt (partitionEqual_holds ltU) hpe'.1 f6.1 f6.2 (by rw [f7]; exact hb) f8 hpe'.2 rfl
            rw [pdq_eq h12 h0 hpi hpe ⟨g1, g2⟩]
            refine (iterL_next (hgo.2 ?_)).trans (ih _ b _ wb wp _ (by omega) g2 (by rw [g3, f7]; exact hb) (by rw [g3, f7]; exact hz) (by omega) (by omega) (by omega) g4)
            rw [t4, Option.bind_some]
            simp only
            rw [t5, Option.bind_some]
          | false =>
            rw [if_neg (by rw [hpe]; exact Bool.false_ne_true)] at t5
            obtain ⟨g1, g2, g3, g4, g5, g6, g7⟩ := round_part (d4 := (partition ltU (rd ltU d a b lim wb wp).pi.1 a b (rd ltU d a b lim wb wp).pivot).2.2) (mid := (partition ltU (rd ltU d a b lim wb wp).pi.1 a b (rd ltU d a b lim wb wp).pivot).1) (ap := (partition ltU (rd ltU d a b lim wb wp).pi.1 a b (rd ltU d a b lim wb wp).pivot).2.1) swo_ltInt (partition_holds ltU) f6.1 f6.2 (by rw [f7]; exact hb) f8 rfl
            have hpv := (part_val a b (rd ltU d a b lim wb wp).pivot (rd ltU d a b lim wb wp).pi.1 f6.1 f6.2 (by rw [f7]; exact hb) (by rw [f7]; exact hz)).1
            have hz4 : (partition ltU (rd ltU d a b lim wb wp).pi.1 a b (rd ltU d a b lim wb wp).pivot).2.2.size < 900000 := by rw [g3, f7]; exact hz
            have hb4 : b ≤ (partition ltU (rd ltU d a b lim wb wp).pi.1 a b (rd ltU d a b lim wb wp).pivot).2.2.size := by rw [g3, f7]; exact hb
            have hgo2 : ∀ {X}, (pdqStep inner (((), ((a : Int), ((b : Int), ((lim : Int), (wb, wp))))), (d.toList, ())) = X) ↔ (pS6 inner (((), ((a : Int), ((b : Int), (((rd ltU d a b lim wb wp).lim : Int), (((b - a : Nat) : Int), ((rd ltU d a b lim wb wp).pivot : Int)))))), ((rd ltU d a b lim wb wp).pi.1.toList, ())) = X) := by
              intro X
              refine hgo.trans ?_
              rw [t4, Option.bind_some]
              simp only
              rw [t5, Option.bind_some]
            by_cases hlt : (partition ltU (rd ltU d a b lim wb wp).pi.1 a b (rd ltU d a b lim wb wp).pivot).1 - a < b - (partition ltU (rd ltU d a b lim wb wp).pi.1 a b (rd ltU d a b lim wb wp).pivot).1
            · rw [pdq_left h12 h0 hpi hpe ⟨g1, g2⟩ hlt]
              generalize partition ltU (rd ltU d a b lim wb wp).pi.1 a b (rd ltU d a b lim wb wp).pivot = q at *
              obtain ⟨w1, w2⟩ := pdq_sorts ltU swo_ltInt q.2.2 a q.1 (rd ltU d a b lim wb wp).lim true true g1 (by omega) g4
              obtain ⟨w3, w4⟩ := g6 _ w1 w2
              have hi := hin q.2.2 a q.1 (rd ltU d a b lim wb wp).lim g1 (by omega) hz4 (by omega) (by omega) (by omega) g4
              have hstep : pS6 inner (((), ((a : Int), ((b : Int), (((rd ltU d a b lim wb wp).lim : Int), (((b - a : Nat) : Int), ((rd ltU d a b lim wb wp).pivot : Int)))))), ((rd ltU d a b lim wb wp).pi.1.toList, ())) = some (.inl (((), (((q.1 + 1 : Nat) : Int), ((b : Int), (((rd ltU d a b lim wb wp).lim : Int), (decide (q.1 - a ≥ (b - a) / 8), q.2.1))))), ((pdq ltU q.2.2 a q.1 (rd ltU d a b lim wb wp).lim true true).toList, ()))) := by
                unfold pS6
                refine (bndS hpv).trans ?_
                simp only [sub_i64 g1 (show q.1 < 1000000 by omega), sub_i64 (show q.1 ≤ b by omega) (show b < 1000000 by omega), dec_t (show ((q.1 - a : Nat) : Int) < ((b - q.1 : Nat) : Int) by omega), cond_true]
                refine (bndS hi).trans ?_
                have e5 : IntKind.i64.wrap (Int.tdiv ((b - a : Nat) : Int) 8) = (((b - a) / 8 : Nat) : Int) := by rw [Int.tdiv_eq_ediv_of_nonneg (by omega), wI (by omega) (by omega)]; omega
                rw [e5, succ_i64 (by omega)]
                rw [show decide (((q.1 - a : Nat) : Int) ≥ (((b - a) / 8 : Nat) : Int)) = decide (q.1 - a ≥ (b - a) / 8) from by congr 1; exact propext ⟨fun h => by omega, fun h => by omega⟩]
              refine (iterL_next (hgo2.2 hstep)).trans (ih _ b _ _ _ _ (by omega) (by omega) (by rw [w1.1]; exact hb4) (by rw [w1.1]; exact hz4) (by omega) (by omega) (by omega) w3)
            · rw [pdq_right h12 h0 hpi hpe ⟨g1, g2⟩ hlt]
              generalize partition ltU (rd ltU d a b lim wb wp).pi.1 a b (rd ltU d a b lim wb wp).pivot = q at *
              obtain ⟨w1, w2⟩ := pdq_sorts ltU swo_ltInt q.2.2 (q.1 + 1) b (rd ltU d a b lim wb wp).lim true true (by omega) hb4 g5
              obtain ⟨w3, w4⟩ := g7 _ w1 w2
              have hi := hin q.2.2 (q.1 + 1) b (rd ltU d a b lim wb wp).lim (by omega) hb4 hz4 (by omega) (by omega) (by omega) g5
              have hstep : pS6 inner (((), ((a : Int), ((b : Int), (((rd ltU d a b lim wb wp).lim : Int), (((b - a : Nat) : Int), ((rd ltU d a b lim wb wp).pivot : Int)))))), ((rd ltU d a b lim wb wp).pi.1.toList, ())) = some (.inl (((), ((a : Int), ((q.1 : Int), (((rd ltU d a b lim wb wp).lim : Int), (decide (b - q.1 ≥ (b - a) / 8), q.2.1))))), ((pdq ltU q.2.2 (q.1 + 1) b (rd ltU d a b lim wb wp).lim true true).toList, ()))) := by
                unfold pS6
                refine (bndS hpv).trans ?_
                simp only [sub_i64 g1 (show q.1 < 1000000 by omega), sub_i64 (show q.1 ≤ b by omega) (show b < 1000000 by omega), dec_f (show ¬ ((q.1 - a : Nat) : Int) < ((b - q.1 : Nat) : Int) by omega), cond_false, succ_i64 (show q.1 < 9223372036854775807 by omega)]
                refine (bndS hi).trans ?_
                have e5 : IntKind.i64.wrap (Int.tdiv ((b - a : Nat) : Int) 8) = (((b - a) / 8 : Nat) : Int) := by rw [Int.tdiv_eq_ediv_of_nonneg (by omega), wI (by omega) (by omega)]; omega
                rw [e5]
                rw [show decide (((b - q.1 : Nat) : Int) ≥ (((b - a) / 8 : Nat) : Int)) = decide (b - q.1 ≥ (b - a) / 8) from by congr 1; exact propext ⟨fun h => by omega, fun h => by omega⟩]
              refine (iterL_next (hgo2.2 hstep)).trans (ih a _ _ _ _ _ (by omega) g1 (by rw [w1.1]; omega) (by rw [w1.1]; exact hz4) (by omega) (by omega) (by omega) w3)
theorem lvl_ok {inner f : Unit → Int → Int → Int → List Int → Option (Unit × List Int × Unit)} {c : Nat} (hin : InnerOk c inner)
    (hf : ∀ a b lim l, f () a b lim l = (iterL (pdqStep inner) loopN (((), (a, (b, (lim, (true, true))))), (l, ()))).bind fun y => some ((), (y.2.1, ()))) : ∀ e, (e ≤ 13 ∨ e ≤ 2 * c) → InnerOk e f := by
  intro e he d a b lim hab hb hz h128 hc hl hB
  rw [hf]
  exact (bndS (iterL_mono (m := loopN) (pdq_in inner c hin (b - a) a b lim true true d (Nat.le_refl _) hab hb hz h128 (by omega) hl hB) (by rw [loopN_eq]; omega))).trans rfl
theorem in0 : InnerOk 0 (fun _ _ _ _ _ => none) := fun d a b lim _ _ _ _ h => by omega
theorem in5 : InnerOk 13 s_pdqsortO_v5 := lvl_ok in0 (fun a b lim l => by unfold s_pdqsortO_v5; rw [pdqStep_l_v5]) 13 (by omega)
theorem in4 : InnerOk 26 s_pdqsortO_v4 := lvl_ok in5 (fun a b lim l => by unfold s_pdqsortO_v4; rw [pdqStep_l_v4]) 26 (by omega)
theorem in3 : InnerOk 52 s_pdqsortO_v3 := lvl_ok in4 (fun a b lim l => by unfold s_pdqsortO_v3; rw [pdqStep_l_v3]) 52 (by omega)
theorem in2 : InnerOk 104 s_pdqsortO_v2 := lvl_ok in3 (fun a b lim l => by unfold s_pdqsortO_v2; rw [pdqStep_l_v2]) 104 (by omega)
theorem in1 : InnerOk 128 s_pdqsortO := lvl_ok in2 (fun a b lim l => by unfold s_pdqsortO; rw [pdqStep_l]) 128 (by omega)
/-- Less than 128 numbers in a row: behind slices.Sort they are in order. -/
theorem sort_val (l : List Int) (h : l.length < 128) : s_Sort_uint32_uint32 () l = some ((), (l.mergeSort (fun x y => decide (x ≤ y)), ())) := by
  have h1 : IntKind.u64.wrap (l.length : Int) = (l.length : Int) := by
    have h2 : ((List.range 128).all fun L => decide (IntKind.u64.wrap (L : Int) = (L : Int))) = true := by kernel_rfl
    exact of_decide_eq_true (List.all_eq_true.1 h2 _ (List.mem_range.2 h))
  have hb : bitsLen l.length < 1000 := by
    have h2 : ((List.range 128).all fun L => decide (bitsLen L < 1000)) = true := by kernel_rfl
    exact of_decide_eq_true (List.all_eq_true.1 h2 _ (List.mem_range.2 h))
  have hp := in1 l.toArray 0 l.length (bitsLen l.length) (Nat.zero_le _) (by simp) (by simp; omega) (by omega) (by omega) hb (.inl rfl)
  have hs := sortInt l
  have he : Sort.sort ltInt l.toArray = pdq ltU l.toArray 0 l.length (bitsLen l.length) true true := by unfold Sort.sort; simp
  rw [← he] at hp
  rw [hs] at hp
  unfold s_Sort_uint32_uint32
  rw [h1, bits_Len_val _ h, Option.bind_some]
  exact (bndS hp).trans rfl
end Go.Proofs.F
