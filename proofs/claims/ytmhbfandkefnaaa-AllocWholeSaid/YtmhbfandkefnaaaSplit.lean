/- What the program's splitting gives. -/
import Derived.Test.YtmhbfandkefnaaaCfg
set_option linter.unusedVariables false
namespace Go.Proofs.Pure
open Go.Proofs.D Go.Proofs.F

/-- What one warehouse gives. -/
def give (left f : Int) : Int := if left < (if 0 > f then 0 else f) then left else if 0 > f then 0 else f

theorem give_le {left f : Int} (h : 0 ≤ left) : 0 ≤ give left f ∧ give left f ≤ left := by
  unfold give; split <;> split at * <;> omega

def runS : List Int → Int → List Int → List Int → Int × List Int
  | [], left, _, got => (left, got)
  | e :: r, left, free, got => runS r (left - give left (free.getD e.toNat 0)) free (got.set e.toNat (give left (free.getD e.toNat 0)))

theorem got4 {l : List Int} (h : l.length = 4) {n : Nat} (hn : n < 4) : l[n]? = some (l.getD n 0) := by
  rw [List.getD_eq_getElem?_getD, List.getElem?_eq_getElem (by omega)]; rfl

theorem alloc_loop (R : List Int) (hR : ∀ e ∈ R, 0 ≤ e ∧ e < 4) (free g0 : List Int) (hf : free.length = 4) (hlen : R.length ≤ 4) : ∀ (k j : Nat), j + k = R.length → ∀ (left : Int) (got : List Int), got.length = 4 → 0 ≤ left → left < 9223372036854775808 →
    (∀ e ∈ R.drop j, got.getD e.toNat 0 = 0) → (R.drop j).Nodup →
    iterL alloc_Split.l1 (k + 1) (((), ((), ((), (left, (R, ((R.length : Int), (j : Int))))))), (free, (g0, (got, ())))) = some (((), ((), (runS (R.drop j) left free got).1)), (g0, ((runS (R.drop j) left free got).2, ())))
  | 0, j, hj, left, got, hg, h1, h2, h3, h4 => by
    have hd : R.drop j = [] := by rw [List.drop_eq_nil_iff]; omega
    rw [hd]
    refine iterL_done ?_
    unfold alloc_Split.l1
    have : decide ((j : Int) < (R.length : Int)) = false := by simp; omega
    simp only [this, cond_false]
    rfl
  | k + 1, j, hj, left, got, hg, h1, h2, h3, h4 => by
    have hlt : j < R.length := by omega
    have he : R[j]? = some R[j] := List.getElem?_eq_getElem hlt
    obtain ⟨b1, b2⟩ := hR R[j] (List.getElem_mem hlt)
    obtain ⟨e, hen⟩ : ∃ e : Nat, R[j] = (e : Int) := Int.eq_ofNat_of_zero_le b1
    rw [hen] at he b1 b2
    have hd : R.drop j = (e : Int) :: R.drop (j + 1) := by rw [List.drop_eq_getElem_cons hlt, hen]
    rw [hd] at h3 h4 ⊢
    have he4 : e < 4 := by omega
    have hz := h3 (e : Int) List.mem_cons_self
    simp only [Int.toNat_natCast] at hz
    have hgv := give_le (f := free.getD e 0) h1
    have hstep : alloc_Split.l1 (((), ((), ((), (left, (R, ((R.length : Int), (j : Int))))))), (free, (g0, (got, ())))) =
        some (.inl (((), ((), ((), (left - give left (free.getD e 0), (R, ((R.length : Int), ((j + 1 : Nat) : Int))))))), (free, (g0, (got.set e (give left (free.getD e 0)), ()))))) := by
      unfold alloc_Split.l1
      have c1 : decide ((j : Int) < (R.length : Int)) = true := by simp; omega
      have c2 : decide (IntKind.i64.wrap (e : Int) ≥ 4) = false := by rw [wrap_i64 (by omega) (by omega)]; simp; omega
      have c3 : (decide (0 ≤ (e : Int)) && decide ((e : Int) < 4)) = true := by simp; omega
      have f1 := got4 hf he4
      have f2 := got4 hg he4
      simp only [c1, cond_true]
      rw [nthK_get he]
      simp only [c2, cond_false]
      rw [chk_true c3, nthK_get f1, chk_true c3, nthK_get f2, chk_true c3]
      show nthN got e _ = _
      rw [nthN_get f2, hz]
      have g1 : IntKind.i64.wrap (left - give left (free.getD e 0)) = left - give left (free.getD e 0) := wrap_i64 (by omega) (by omega)
      have g2 : IntKind.i64.wrap (0 + give left (free.getD e 0)) = give left (free.getD e 0) := by rw [Int.zero_add]; exact wrap_i64 (by omega) (by omega)
      have g3 : IntKind.i64.wrap ((j : Int) + 1) = ((j + 1 : Nat) : Int) := by rw [wrap_i64 (by omega) (by omega)]; omega
      unfold give at g1 g2 ⊢
      rw [g1, g2, g3]
    rw [iterL_next hstep]
    have hnd := (List.nodup_cons.1 h4)
    rw [alloc_loop R hR free g0 hf hlen k (j + 1) (by omega) _ _ (by simp [hg]) (by omega) (by omega) (fun e' he' => ?_) hnd.2]
    · rfl
    · have hne : e ≠ e'.toNat := fun q => by
        have b := hR e' (List.mem_of_mem_drop he')
        have : (e : Int) = e' := by omega
        exact hnd.1 (by rw [this]; exact he')
      have := h3 e' (List.mem_cons_of_mem _ he')
      simp only [List.getD_eq_getElem?_getD] at this ⊢
      rw [List.getElem?_set_ne hne]; exact this

theorem runS_zero (free : List Int) : ∀ (R : List Int), runS R 0 free (List.replicate 4 0) = (0, List.replicate 4 0)
  | [] => rfl
  | e :: r => by
    have hg : give 0 (free.getD e.toNat 0) = 0 := by have := give_le (f := free.getD e.toNat 0) (Int.le_refl 0); omega
    simp only [runS, hg]
    have : (List.replicate 4 (0 : Int)).set e.toNat 0 = List.replicate 4 0 := by
      apply List.ext_getElem?
      intro n
      by_cases h : e.toNat = n
      · subst h
        rw [List.getElem?_set]
        simp only [if_true]
        rw [List.length_replicate, List.getElem?_replicate]
      · rw [List.getElem?_set_ne h]
    rw [this]
    exact runS_zero free r

theorem turn_val {w t i j : Int} (hw : three w) (ht : 0 ≤ t ∧ t < 256) (hi : 0 ≤ i ∧ i < 4) (hj : 0 ≤ j ∧ j < 4) : turnOf w t i j = (j + i + t) % w := by
  unfold turnOf
  have e1 : IntKind.i64.wrap (j + i) = j + i := wrap_i64 (by omega) (by omega)
  have e2 : IntKind.i64.wrap t = t := wrap_i64 (by omega) (by omega)
  rw [e1, e2, wrap_i64 (by omega) (by omega), Int.tmod_eq_emod_of_nonneg (by omega)]
  rcases hw with e | e | e <;> subst e <;> exact wrap_u8 (by omega) (by omega)

/-- The row of an article: who comes first. -/
theorem prio_row {s w t : Int} (hs : three s) (hw : three w) (ht : 0 ≤ t ∧ t < 256) (i : Nat) (hi : (i : Int) < s) :
    ∃ row R, (prioOf s w t)[i]? = some row ∧ row.length = 4 ∧ R = row.take w.toNat ∧ (R.length : Int) = w ∧ (∀ e ∈ R, 0 ≤ e ∧ e < w) ∧ R.Nodup := by
  have hi4 : i < 3 := by rcases hs with e | e | e <;> omega
  have hti : ∀ j : Int, 0 ≤ j → j < 4 → turnOf w t (i : Int) j = (j + i + t) % w := fun j h1 h2 => turn_val hw ht (by omega) (by omega)
  have hrow : (prioOf s w t)[i]? = some ([0, 1, 2, 3].map fun j : Int => bif decide ((i : Int) < s) && decide (j < w) then turnOf w t (i : Int) j else 0) := by
    unfold prioOf table
    rw [List.getElem?_map]
    have : ([0, 1, 2, 3] : List Int)[i]? = some (i : Int) := by
      match i, hi4 with
      | 0, _ => rfl
      | 1, _ => rfl
      | 2, _ => rfl
    rw [this]; rfl
  have hs' : decide ((i : Int) < s) = true := by simpa using hi
  refine ⟨_, _, hrow, by simp, rfl, ?_⟩
  have t0 := hti 0 (by omega) (by omega)
  have t1 := hti 1 (by omega) (by omega)
  have t2 := hti 2 (by omega) (by omega)
  rcases hw with e | e | e <;> subst e
  · have : (([0, 1, 2, 3] : List Int).map fun j : Int => bif decide ((i : Int) < s) && decide (j < 1) then turnOf 1 t (i : Int) j else 0).take (1 : Int).toNat = [(0 + i + t) % 1] := by
      simp [hs', t0]
    rw [this]
    refine ⟨rfl, fun e he => ?_, by simp⟩
    simp only [List.mem_singleton] at he; omega
  · have : (([0, 1, 2, 3] : List Int).map fun j : Int => bif decide ((i : Int) < s) && decide (j < 2) then turnOf 2 t (i : Int) j else 0).take (2 : Int).toNat = [(0 + i + t) % 2, (1 + i + t) % 2] := by
      simp [hs', t0, t1]
    rw [this]
    refine ⟨rfl, fun e he => ?_, ?_⟩
    · simp only [List.mem_cons, List.not_mem_nil, or_false] at he; omega
    · simp only [List.nodup_cons, List.mem_cons, List.not_mem_nil, or_false, not_false_eq_true, List.nodup_nil, and_true]; omega
  · have : (([0, 1, 2, 3] : List Int).map fun j : Int => bif decide ((i : Int) < s) && decide (j < 3) then turnOf 3 t (i : Int) j else 0).take (3 : Int).toNat = [(0 + i + t) % 3, (1 + i + t) % 3, (2 + i + t) % 3] := by
      simp [hs', t0, t1, t2]
    rw [this]
    refine ⟨rfl, fun e he => ?_, ?_⟩
    · simp only [List.mem_cons, List.not_mem_nil, or_false] at he; omega
    · simp only [List.nodup_cons, List.mem_cons, List.not_mem_nil, or_false, not_false_eq_true, List.nodup_nil, and_true]; omega

/-- What both give. -/
def splitOf (c : Int × Int × List ((Int × Int × Int × Unit) × Int × Int × Int × Unit) × List (List Int) × Int × Int × Int × Int × Int × Int × Int × Unit) (sku qty : Int) (free : List Int) : List Int × Int × Unit :=
  if qty < 1 then (List.replicate 4 0, (0, ())) else if sku ≥ c.1 then (List.replicate 4 0, (qty, ()))
  else ((runS ((c.2.2.2.1.getD sku.toNat []).take c.2.1.toNat) qty free (List.replicate 4 0)).2, ((runS ((c.2.2.2.1.getD sku.toNat []).take c.2.1.toNat) qty free (List.replicate 4 0)).1, ()))

theorem alloc_val (x : Sm) (hx : WfE kSmall x) (sku qty : Int) (free : List Int) (h1 : 0 ≤ sku ∧ sku < 256) (h2 : -9223372036854775808 ≤ qty ∧ qty < 9223372036854775808) (h3 : free.length = 4) :
    ∃ c, pledgelaw06_Config x = some c ∧ alloc_Split c sku qty free = some (splitOf c sku qty free) ∧ three c.1 ∧ three c.2.1 ∧
      ∀ i : Nat, (i : Int) < c.1 → ∃ row R, c.2.2.2.1[i]? = some row ∧ row.length = 4 ∧ R = row.take c.2.1.toNat ∧ (R.length : Int) = c.2.1 ∧ (∀ e ∈ R, 0 ≤ e ∧ e < c.2.1) ∧ R.Nodup := by
  obtain ⟨a, b, r, n, ha, ts, tw, hc, _⟩ := config_some x hx
  obtain ⟨_, _, _, _, _, x6, _⟩ := hx
  have wt := wf_u8 x6
  refine ⟨_, hc, ?_⟩
  generalize hsd : 1 + x.1 % 3 = s at ts
  generalize hwd : 1 + x.2.1 % 3 = w at tw
  refine ⟨?_, ts, tw, fun i hi => prio_row ts tw wt i hi⟩
  have hs4 : 1 ≤ s ∧ s ≤ 3 := by rcases ts with e | e | e <;> omega
  have hw4 : 1 ≤ w ∧ w ≤ 3 := by rcases tw with e | e | e <;> omega
  obtain ⟨i, rfl⟩ : ∃ i : Nat, sku = (i : Int) := Int.eq_ofNat_of_zero_le h1.1
  have wi : IntKind.i64.wrap (i : Int) = (i : Int) := wrap_i64 (by omega) (by omega)
  unfold alloc_Split splitOf
  simp only [wi, if_neg (by omega : ¬ (4 : Int) < s)]
  by_cases hge : (i : Int) ≥ s
  · have d1 : decide ((i : Int) ≥ s) = true := by simpa using hge
    simp only [d1, cond_true]
    by_cases hq : qty < 1
    · simp only [if_pos hq]
      congr 2
      rw [show (if 0 > qty then 0 else qty) = 0 by split <;> omega]
    · simp only [if_neg hq, if_pos hge]
      rw [if_neg (by omega : ¬ (0 : Int) > qty)]
  · have d1 : decide ((i : Int) ≥ s) = false := by simpa using hge
    obtain ⟨row, R, p1, p2, p3, p4, p5, p6⟩ := prio_row ts tw wt i (by omega)
    have hR4 : ∀ e ∈ R, 0 ≤ e ∧ e < 4 := fun e he => by have := p5 e he; omega
    have hlen : R.length ≤ 4 := by omega
    have hcl : (if 4 < (if 0 > w then 0 else w) then 4 else if 0 > w then 0 else w) = w := by rw [if_neg (by omega : ¬ (0 : Int) > w), if_neg (by omega)]
    have c1 : (decide (0 ≤ (i : Int)) && decide ((i : Int) < 4)) = true := by simp; omega
    have c2 : (decide (0 ≤ w) && decide (w ≤ 4)) = true := by simp; omega
    have hgetD : (prioOf s w x.2.2.2.2.2.1).getD (i : Int).toNat [] = row := by
      rw [Int.toNat_natCast, List.getD_eq_getElem?_getD, p1]; rfl
    have hrep : ∀ e : Int, (List.replicate 4 (0 : Int)).getD e.toNat 0 = 0 := fun e => by
      rw [List.getD_eq_getElem?_getD, List.getElem?_replicate]; split <;> rfl
    have alloc : ∀ left : Int, 0 ≤ left → left < 9223372036854775808 → iterL alloc_Split.l1 loopN (((), ((), ((), (left, (R, ((R.length : Int), 0)))))), (free, (List.replicate 4 0, (List.replicate 4 0, ())))) =
        some (((), ((), (runS R left free (List.replicate 4 0)).1)), (List.replicate 4 0, ((runS R left free (List.replicate 4 0)).2, ()))) := fun left k1 k2 =>
      iterL_mono (alloc_loop R hR4 free (List.replicate 4 0) h3 hlen R.length 0 (by omega) left (List.replicate 4 0) (by simp) k1 k2 (fun e _ => hrep e) p6) (by rw [loopN_eq]; omega)
    simp only [d1, cond_false, hcl, if_neg hge, hgetD, ← p3]
    rw [chk_true c1, nthK_get p1, chk_true c2, List.drop_zero, ← p3, alloc _ (by split <;> omega) (by split <;> omega)]
    simp only [Option.bind_some]
    by_cases hq : qty < 1
    · simp only [if_pos hq]
      rw [show (if 0 > qty then 0 else qty) = 0 by split <;> omega, runS_zero]
    · simp only [if_neg hq]
      rw [if_neg (by omega : ¬ (0 : Int) > qty)]

theorem eqL_refl : ∀ l : List Int, eqE.eqL (eqE (.int .i64)) l l = true
  | [] => rfl
  | a :: l => by
    show (((a : Int) == a) && eqE.eqL (eqE (.int .i64)) l l) = true
    rw [eqL_refl l]; simp

theorem works33 : pledgelaw33_works = some true := by kernel_rfl
end Go.Proofs.Pure
