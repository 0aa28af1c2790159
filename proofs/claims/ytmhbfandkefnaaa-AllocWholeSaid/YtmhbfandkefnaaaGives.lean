/- What a splitting gives: laws of runS. -/
import Derived.Test.YtmhbfandkefnaaaSplit
import Derived.Test.YtmhbfandkefnaaaSum
set_option linter.unusedVariables false
namespace Go.Proofs.Pure
open Go.Proofs.D Go.Proofs.F

/-- What is left behind so many warehouses. -/
def leftAt : List Int → Int → List Int → Nat → Int
  | _, L, _, 0 => L
  | [], L, _, _ + 1 => L
  | e :: r, L, free, i + 1 => leftAt r (L - give L (free.getD e.toNat 0)) free i

theorem leftAt_end (free : List Int) : ∀ (R : List Int) (L : Int) (got : List Int), (runS R L free got).1 = leftAt R L free R.length
  | [], L, got => rfl
  | e :: r, L, got => leftAt_end free r _ _

theorem leftAt_le (free : List Int) : ∀ (R : List Int) (L : Int) (i : Nat), 0 ≤ L → 0 ≤ leftAt R L free i ∧ leftAt R L free i ≤ L
  | R, L, 0, h => by cases R <;> exact ⟨h, Int.le_refl _⟩
  | [], L, i + 1, h => ⟨h, Int.le_refl _⟩
  | e :: r, L, i + 1, h => by
    have hg := give_le (f := free.getD e.toNat 0) h
    have := leftAt_le free r (L - give L (free.getD e.toNat 0)) i (by omega)
    simp only [leftAt]; omega

theorem leftAt_succ (free : List Int) : ∀ (R : List Int) (L : Int) (i : Nat) (h : i < R.length), leftAt R L free (i + 1) = leftAt R L free i - give (leftAt R L free i) (free.getD (R[i]).toNat 0)
  | [], L, i, h => by simp at h
  | e :: r, L, 0, h => by cases r <;> rfl
  | e :: r, L, i + 1, h => by
    simp only [leftAt]
    exact leftAt_succ free r _ i (by simpa using h)

theorem runS_len (free : List Int) : ∀ (R : List Int) (L : Int) (got : List Int), (runS R L free got).2.length = got.length
  | [], L, got => rfl
  | e :: r, L, got => by simp only [runS]; rw [runS_len free r]; simp

theorem runS_other (free : List Int) (n : Nat) : ∀ (R : List Int) (L : Int) (got : List Int), (∀ e ∈ R, e.toNat ≠ n) → (runS R L free got).2[n]? = got[n]?
  | [], L, got, _ => rfl
  | e :: r, L, got, h => by
    simp only [runS]
    rw [runS_other free n r _ _ (fun x hx => h x (List.mem_cons_of_mem _ hx)), List.getElem?_set_ne (h e List.mem_cons_self)]

theorem runS_get (free : List Int) : ∀ (R : List Int) (L : Int) (got : List Int) (i : Nat) (hi : i < R.length), R.Nodup → (∀ e ∈ R, 0 ≤ e ∧ e.toNat < got.length) →
    (runS R L free got).2[(R[i]).toNat]? = some (give (leftAt R L free i) (free.getD (R[i]).toNat 0))
  | [], L, got, i, hi, _, _ => by simp at hi
  | e :: r, L, got, 0, hi, hn, hr => by
    obtain ⟨h1, h2⟩ := List.nodup_cons.1 hn
    have he := hr e List.mem_cons_self
    simp only [runS, List.getElem_cons_zero]
    rw [runS_other free e.toNat r _ _ (fun x hx q => by
      have := hr x (List.mem_cons_of_mem _ hx)
      have : x = e := by omega
      subst this; exact h1 hx), List.getElem?_set]
    simp only [if_true, if_pos he.2]
    cases r <;> rfl
  | e :: r, L, got, i + 1, hi, hn, hr => by
    obtain ⟨h1, h2⟩ := List.nodup_cons.1 hn
    simp only [runS, List.getElem_cons_succ, leftAt]
    exact runS_get free r _ _ i (by simpa using hi) h2 fun x hx => by
      have := hr x (List.mem_cons_of_mem _ hx)
      simpa using this

theorem total_set : ∀ (l : List Int) (n : Nat) (x : Int), n < l.length → total (l.set n x) = total l - l.getD n 0 + x
  | [], n, x, h => by simp at h
  | a :: l, 0, x, h => by simp [total]; omega
  | a :: l, n + 1, x, h => by
    simp only [List.set_cons_succ, total]
    rw [total_set l n x (by simpa using h)]
    simp [List.getD_eq_getElem?_getD]; omega

theorem runS_total (free : List Int) : ∀ (R : List Int) (L : Int) (got : List Int), R.Nodup → (∀ e ∈ R, 0 ≤ e ∧ e.toNat < got.length ∧ got.getD e.toNat 0 = 0) →
    total (runS R L free got).2 + (runS R L free got).1 = total got + L
  | [], L, got, _, _ => rfl
  | e :: r, L, got, hn, hr => by
    obtain ⟨h1, h2⟩ := List.nodup_cons.1 hn
    have he := hr e List.mem_cons_self
    simp only [runS]
    rw [runS_total free r _ _ h2 fun x hx => ?_, total_set _ _ _ he.2.1, he.2.2]
    · omega
    · have hx' := hr x (List.mem_cons_of_mem _ hx)
      have hne : e.toNat ≠ x.toNat := fun q => by
        have : x = e := by omega
        subst this; exact h1 hx
      refine ⟨hx'.1, by simpa using hx'.2.1, ?_⟩
      have := hx'.2.2
      simp only [List.getD_eq_getElem?_getD] at this ⊢
      rw [List.getElem?_set_ne hne]; exact this

def max0 (n : Int) : Int := if 0 > n then 0 else n
theorem max0_le (n : Int) : 0 ≤ max0 n := by unfold max0; split <;> omega

abbrev Cg := Int × Int × List ((Int × Int × Int × Unit) × Int × Int × Int × Unit) × List (List Int) × Int × Int × Int × Int × Int × Int × Int × Unit

/-- The configuration's rows: who comes first. -/
structure Prio (c : Cg) : Prop where
  skus : three c.1
  wares : three c.2.1
  rows : ∀ i : Nat, (i : Int) < c.1 → ∃ row R, c.2.2.2.1[i]? = some row ∧ row.length = 4 ∧ R = row.take c.2.1.toNat ∧ (R.length : Int) = c.2.1 ∧ (∀ e ∈ R, 0 ≤ e ∧ e < c.2.1) ∧ R.Nodup

theorem config_split (x : Sm) (hx : WfE kSmall x) : ∃ c, pledgelaw06_Config x = some c ∧ Prio c ∧ ∀ (sku qty : Int) (free : List Int), 0 ≤ sku ∧ sku < 256 → -9223372036854775808 ≤ qty ∧ qty < 9223372036854775808 → free.length = 4 → alloc_Split c sku qty free = some (splitOf c sku qty free) := by
  obtain ⟨c, k1, _, k3, k4, k5⟩ := alloc_val x hx 0 0 [0, 0, 0, 0] (by omega) (by omega) rfl
  refine ⟨c, k1, ⟨k3, k4, k5⟩, fun sku qty free h1 h2 h3 => ?_⟩
  obtain ⟨c', e1, e2, _⟩ := alloc_val x hx sku qty free h1 h2 h3
  rw [k1] at e1
  cases e1
  exact e2

/-- What the warehouses give of a line. -/
structure Given (c : Cg) (free got : List Int) (left qty : Int) : Prop where
  len : got.length = 4
  pos : ∀ n : Nat, n < 4 → 0 ≤ got.getD n 0 ∧ got.getD n 0 ≤ max0 (free.getD n 0)
  out : ∀ n : Nat, n < 4 → c.2.1 ≤ (n : Int) → got.getD n 0 = 0
  rest : 0 ≤ left
  all : total got + left = qty

theorem split_given {c : Cg} (hc : Prio c) (sku qty : Int) (free : List Int) (h1 : 0 ≤ sku ∧ sku < c.1) (h2 : 1 ≤ qty) (h3 : free.length = 4) : Given c free (splitOf c sku qty free).1 (splitOf c sku qty free).2.1 qty := by
  have hw4 : 1 ≤ c.2.1 ∧ c.2.1 ≤ 3 := by rcases hc.wares with e | e | e <;> omega
  obtain ⟨i, hi⟩ : ∃ i : Nat, sku = (i : Int) := Int.eq_ofNat_of_zero_le h1.1
  obtain ⟨row, R, p1, p2, p3, p4, p5, p6⟩ := hc.rows i (by omega)
  have hgetD : c.2.2.2.1.getD sku.toNat [] = row := by rw [hi, Int.toNat_natCast, List.getD_eq_getElem?_getD, p1]; rfl
  have hsp : splitOf c sku qty free = ((runS R qty free (List.replicate 4 0)).2, ((runS R qty free (List.replicate 4 0)).1, ())) := by
    unfold splitOf
    rw [if_neg (by omega), if_neg (by omega), hgetD, ← p3]
  rw [hsp]
  have hR4 : ∀ e ∈ R, 0 ≤ e ∧ e < 4 := fun e he => by have := p5 e he; omega
  have hL : (0 : Int) ≤ qty := by omega
  have hR : ∀ x ∈ R, 0 ≤ x ∧ x.toNat < (List.replicate 4 (0 : Int)).length := fun x hx => by have := hR4 x hx; simp; omega
  have htot := runS_total free R qty (List.replicate 4 0) p6 fun e he => ⟨(hR4 e he).1, by have := hR4 e he; simp; omega, by rw [List.getD_eq_getElem?_getD, List.getElem?_replicate]; split <;> rfl⟩
  rw [show total (List.replicate 4 0) = 0 by rfl] at htot
  refine ⟨by rw [runS_len]; simp, fun n hn => ?_, fun n hn hcn => ?_, by rw [leftAt_end]; exact (leftAt_le _ _ _ _ hL).1, by show total (runS R qty free (List.replicate 4 0)).2 + (runS R qty free (List.replicate 4 0)).1 = qty; omega⟩
  · by_cases h : ∃ j, ∃ hj : j < R.length, (R[j]).toNat = n
    · obtain ⟨j, hj, e⟩ := h
      have := runS_get free R qty (List.replicate 4 0) j hj p6 hR
      rw [e] at this
      rw [List.getD_eq_getElem?_getD, this]
      have h1 := give_le (f := free.getD n 0) (leftAt_le free R qty j hL).1
      refine ⟨h1.1, ?_⟩
      show give _ _ ≤ _
      unfold give max0
      split <;> omega
    · have := runS_other free n R qty (List.replicate 4 0) fun e he q => by
        obtain ⟨j, hj, e2⟩ := List.mem_iff_getElem.1 he
        exact h ⟨j, hj, by rw [e2]; exact q⟩
      rw [List.getElem?_replicate, if_pos hn] at this
      rw [List.getD_eq_getElem?_getD, this]
      exact ⟨Int.le_refl _, max0_le _⟩
  · have := runS_other free n R qty (List.replicate 4 0) fun e he q => by have := p5 e he; omega
    rw [List.getElem?_replicate, if_pos hn] at this
    rw [List.getD_eq_getElem?_getD, this]; rfl
end Go.Proofs.Pure
