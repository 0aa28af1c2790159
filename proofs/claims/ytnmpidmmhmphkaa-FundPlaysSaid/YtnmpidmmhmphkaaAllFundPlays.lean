/- Of any declarations, whatever is called, all fields, and each error, are the document's. -/
import Derived.Test.YtnmpidmmhmphkaaFnPly
import Derived.Test.YtnmpidmmhmphkaaPLib
import Derived.Test.YtnmpidmmhmphkaaDOpen
set_option linter.unusedVariables false
set_option maxRecDepth 100000
set_option linter.unusedSimpArgs false

/- Keys, in order. -/
namespace Go.Proofs.Pure
open Go.Proofs.D Go.Proofs.F

abbrev KE := Int × Int × Int × Unit
abbrev OpE := KE × Int × Unit

theorem eqK_refl (a : KE) : eqE kKey a a = true := by
  show ((a.1 == a.1) && ((a.2.1 == a.2.1) && ((a.2.2.1 == a.2.2.1) && true))) = true
  simp
theorem eqK_iff {a b : KE} : eqE kKey a b = true ↔ a = b := ⟨fun h => eqE_eq (c := kKey) rfl h, fun h => by rw [h]; exact eqK_refl b⟩
theorem eqK_ne {a b : KE} (h : a ≠ b) : eqE kKey a b = false := by
  cases hq : eqE kKey a b with
  | false => rfl
  | true => exact absurd (eqK_iff.1 hq) h
theorem eqO_iff {a b : OpE} : eqE kOp a b = true ↔ a = b := ⟨fun h => eqE_eq (c := kOp) rfl h, fun h => by
  rw [h]
  show (eqE kKey b.1 b.1 && ((b.2.1 == b.2.1) && true)) = true
  rw [eqK_refl]; simp⟩

theorem lt_asymm {a b : KE} (h : ltOf cmp3 a b = true) : ltOf cmp3 b a = false := by
  cases hq : ltOf cmp3 b a with
  | false => rfl
  | true => have := swo3.trans a b a h hq; rw [swo3.irrefl] at this; cases this
theorem sorted_nodup {ks : List KE} (h : ks.Pairwise fun a b => ltOf cmp3 a b = true) : ks.Nodup := h.imp fun {a b} q e => by
  subst e; rw [swo3.irrefl] at q; cases q
theorem sorted_unique {ks ks' : List KE} (h : ks.Pairwise fun a b => ltOf cmp3 a b = true) (h' : ks'.Pairwise fun a b => ltOf cmp3 a b = true) (hm : ∀ k, k ∈ ks ↔ k ∈ ks') : ks = ks' := by
  refine List.Perm.eq_of_pairwise (le := fun a b => ltOf cmp3 a b = true) (fun a b _ _ h1 h2 => ?_) h h' ((List.perm_ext_iff_of_nodup (sorted_nodup h) (sorted_nodup h')).2 hm)
  rw [lt_asymm h1] at h2; cases h2
end Go.Proofs.Pure

/- What calc.Sum answers. -/
namespace Go.Proofs.Pure
open Go.Proofs.D Go.Proofs.F

def total : List Int → Int | [] => 0 | x :: l => x + total l
theorem total_append : ∀ (a b : List Int), total (a ++ b) = total a + total b
  | [], b => by simp [total]
  | x :: a, b => by simp only [List.cons_append, total, total_append a b]; omega

theorem wrap_u64 (n : Int) : IntKind.u64.wrap n = n % 18446744073709551616 := by
  simp only [IntKind.wrap, IntKind.bits, IntKind.signed, Bool.false_and, Bool.false_eq_true, if_false, show (2 : Int) ^ 64 = 18446744073709551616 by decide]

theorem add64_val {a b c : Int} (ha : 0 ≤ a) (hb : 0 ≤ b) (hc : c = 0 ∨ c = 1) : add64 a b c = some ((a + b + c) % 18446744073709551616, ((a + b + c) / 18446744073709551616, ())) := by
  obtain ⟨a, rfl⟩ := Int.eq_ofNat_of_zero_le ha
  obtain ⟨b, rfl⟩ := Int.eq_ofNat_of_zero_le hb
  rcases hc with e | e <;> subst e <;> rfl

theorem fdiv63 {e : Int} (h1 : -9223372036854775808 ≤ e) (h2 : e < 9223372036854775808) : Int.fdiv e (2 ^ 63) = if e < 0 then -1 else 0 := by
  rw [show (2 : Int) ^ 63 = 9223372036854775808 by decide, Int.fdiv_eq_ediv_of_nonneg _ (by omega)]
  split <;> omega

theorem total_bound : ∀ (l : List Int), (∀ x ∈ l, -9223372036854775808 ≤ x ∧ x < 9223372036854775808) → -9223372036854775808 * (l.length : Int) ≤ total l ∧ total l ≤ 9223372036854775808 * (l.length : Int)
  | [], _ => by simp [total]
  | x :: l, h => by
    have h1 := h x List.mem_cons_self
    have h2 := total_bound l fun y hy => h y (List.mem_cons_of_mem _ hy)
    simp only [total, List.length_cons, Int.natCast_add, Int.natCast_one]
    omega

def fitsI (n : Int) : Bool := decide (-9223372036854775808 ≤ n) && decide (n < 9223372036854775808)
/-- All numbers together, or that they do not fit. -/
def sumOf (l : List Int) : Int × Bool × Unit := if fitsI (total l) = true then (total l, (true, ())) else (0, (false, ()))

end Go.Proofs.Pure

/- Rows in order, and the map that has them. -/
namespace Go.Proofs.Pure
open Go.Proofs.D Go.Proofs.F

theorem walk_foldl {α A X : Type} (g : A → α → A) (fin : A → X) : ∀ (l : List α) (i : Nat) (acc : A), walkL (fun _ x a => .inl (g a x)) fin i l acc = fin (l.foldl g acc)
  | [], i, acc => rfl
  | x :: l, i, acc => by
    rw [walkL]
    exact walk_foldl g fin l (i + 1) (g acc x)
theorem eqK_dec (a b : KE) : eqE kKey a b = decide (a = b) := by rw [Bool.eq_iff_iff, decide_eq_true_iff]; exact eqK_iff
/-- Keys that are each there once, sorted, rise. -/
theorem sort_rises {ks : List KE} (h1 : ks.Nodup) : (ks.mergeSort (leOf cmp3)).Pairwise fun a b => ltOf cmp3 a b = true := by
  have hp := List.mergeSort_perm ks (leOf cmp3)
  have hn := hp.nodup_iff.2 h1
  have hs : (ks.mergeSort (leOf cmp3)).Pairwise fun a b => leOf cmp3 a b = true := List.pairwise_mergeSort (fun a b c q1 q2 => by
    unfold leOf at *
    simp only [Bool.not_eq_true'] at *
    exact swo3.ntrans c b a q2 q1) (fun a b => by
    unfold leOf
    cases q1 : ltOf cmp3 b a with
    | false => rfl
    | true => rw [lt_asymm q1]; rfl) _
  refine (hs.and hn).imp fun {a b} q => ?_
  obtain ⟨q1, q2⟩ := q
  unfold leOf at q1
  simp only [Bool.not_eq_true'] at q1
  cases hq : ltOf cmp3 a b with
  | true => rfl
  | false => exact absurd (tot3 a b hq q1) q2

section
variable {α : Type} {z : α}
abbrev MV (α : Type) := List (KE × α)
abbrev RV (α : Type) := List (KE × α × Unit)
def gA (z : α) : MV α → KE → α
  | [], _ => z
  | e :: r, k => if k = e.1 then e.2 else gA z r k
def hA : MV α → KE → Bool
  | [], _ => false
  | e :: r, k => decide (k = e.1) || hA r k
def pA : MV α → KE → α → MV α
  | [], k, v => [(k, v)]
  | e :: r, k, v => if k = e.1 then (k, v) :: r else e :: pA r k v
def dA : MV α → KE → MV α
  | [], _ => []
  | e :: r, k => if k = e.1 then r else e :: dA r k
def keysM (m : MV α) : List KE := m.map fun p => p.1
def sortM (m : MV α) : List KE := (keysM m).mergeSort (leOf cmp3)
def rowsM (z : α) (m : MV α) : RV α := (sortM m).map fun k => (k, (gA z m k, ()))
def SortR (l : RV α) : Prop := l.Pairwise fun a b => ltOf cmp3 a.1 b.1 = true

theorem hasM_val (m : MV α) (k : KE) : hA m k = decide (k ∈ keysM m) := by
  induction m with
  | nil => rfl
  | cons e r ih =>
    show (decide (k = e.1) || hA r k) = decide (k ∈ e.1 :: keysM r)
    rw [ih, Bool.eq_iff_iff]
    simp
theorem getM_cons (e : KE × α) (r : MV α) (k : KE) : gA z (e :: r) k = if k = e.1 then e.2 else gA z r k := rfl
theorem putM_cons (e : KE × α) (r : MV α) (k : KE) (v : α) : pA (e :: r) k v = if k = e.1 then (k, v) :: r else e :: pA r k v := rfl
theorem delM_cons (e : KE × α) (r : MV α) (k : KE) : dA (e :: r) k = if k = e.1 then r else e :: dA r k := rfl
theorem getM_put (m : MV α) (k k' : KE) (v : α) : gA z (pA m k v) k' = if k' = k then v else gA z m k' := by
  induction m with
  | nil =>
    rfl
  | cons e r ih =>
    rw [putM_cons]
    by_cases h : k = e.1
    · rw [if_pos h, getM_cons, getM_cons]
      by_cases h2 : k' = k
      · rw [if_pos h2, if_pos h2]
      · rw [if_neg h2, if_neg h2, if_neg (fun q => h2 (q.trans h.symm))]
    · rw [if_neg h, getM_cons, getM_cons, ih]
      by_cases h2 : k' = e.1
      · rw [if_pos h2, if_pos h2, if_neg (fun q => h (q.symm.trans h2))]
      · rw [if_neg h2, if_neg h2]
theorem keys_put (m : MV α) (k : KE) (v : α) : keysM (pA m k v) = if k ∈ keysM m then keysM m else keysM m ++ [k] := by
  induction m with
  | nil => rw [if_neg (by simp [keysM])]; rfl
  | cons e r ih =>
    rw [putM_cons]
    by_cases h : k = e.1
    · rw [if_pos h, if_pos (by simp [keysM, h])]
      show k :: keysM r = e.1 :: keysM r
      rw [h]
    · rw [if_neg h]
      show e.1 :: keysM (pA r k v) = if k ∈ e.1 :: keysM r then e.1 :: keysM r else e.1 :: keysM r ++ [k]
      rw [ih]
      by_cases h2 : k ∈ keysM r
      · rw [if_pos h2, if_pos (List.mem_cons_of_mem _ h2)]
      · rw [if_neg h2, if_neg (fun q => (List.mem_cons.1 q).elim h h2)]; rfl
theorem mem_put (m : MV α) (k x : KE) (v : α) : x ∈ keysM (pA m k v) ↔ x = k ∨ x ∈ keysM m := by
  rw [keys_put]
  by_cases h : k ∈ keysM m
  · rw [if_pos h]
    exact ⟨.inr, fun q => q.elim (fun e => e ▸ h) id⟩
  · rw [if_neg h, List.mem_append, List.mem_singleton]
    exact ⟨Or.symm, Or.symm⟩
theorem nodup_put {m : MV α} (h : (keysM m).Nodup) (k : KE) (v : α) : (keysM (pA m k v)).Nodup := by
  rw [keys_put]
  by_cases q : k ∈ keysM m
  · rw [if_pos q]; exact h
  · rw [if_neg q]
    exact List.nodup_append.2 ⟨h, by simp, fun a ha b hb e => q (by rw [List.mem_singleton.1 hb] at e; exact e ▸ ha)⟩
theorem len_keys (m : MV α) : (keysM m).length = m.length := by unfold keysM; rw [List.length_map]
theorem len_put (m : MV α) (k : KE) (v : α) : (pA m k v).length ≤ m.length + 1 := by
  rw [← len_keys, keys_put, ← len_keys]
  split
  · omega
  · simp
theorem keys_del (m : MV α) (k : KE) : keysM (dA m k) = (keysM m).erase k := by
  induction m with
  | nil => rfl
  | cons e r ih =>
    rw [delM_cons]
    show _ = (e.1 :: keysM r).erase k
    by_cases h : k = e.1
    · rw [if_pos h, h, List.erase_cons_head]
    · rw [if_neg h, List.erase_cons_tail (by simpa using fun q : e.1 = k => h q.symm)]
      show e.1 :: keysM (dA r k) = _
      rw [ih]
theorem getM_del (m : MV α) (k k' : KE) (hne : k' ≠ k) : gA z (dA m k) k' = gA z m k' := by
  induction m with
  | nil => rfl
  | cons e r ih =>
    rw [delM_cons, getM_cons]
    by_cases h : k = e.1
    · rw [if_pos h, if_neg (fun q => hne (q.trans h.symm))]
    · rw [if_neg h, getM_cons, ih]
theorem getM_none (m : MV α) (k : KE) (h : k ∉ keysM m) : gA z m k = z := by
  induction m with
  | nil => rfl
  | cons e r ih =>
    rw [getM_cons, if_neg (fun q => h (by rw [q]; exact List.mem_cons_self))]
    exact ih fun q => h (List.mem_cons_of_mem _ q)

theorem sortM_len (m : MV α) : (sortM m).length = m.length := by
  unfold sortM keysM
  rw [List.length_mergeSort, List.length_map]
theorem mem_sortM (m : MV α) (k : KE) : k ∈ sortM m ↔ k ∈ keysM m := (List.mergeSort_perm _ _).mem_iff
theorem rows_len (m : MV α) : (rowsM z m).length = m.length := by unfold rowsM; rw [List.length_map, sortM_len]
theorem rows_sorted {m : MV α} (h : (keysM m).Nodup) : SortR (rowsM z m) := by
  unfold SortR rowsM
  rw [List.pairwise_map]
  exact sort_rises h
theorem mem_rows {m : MV α} (x : KE × α × Unit) : x ∈ rowsM z m ↔ x.1 ∈ keysM m ∧ x.2.1 = gA z m x.1 := by
  unfold rowsM
  rw [List.mem_map]
  constructor
  · rintro ⟨k, hk, rfl⟩
    exact ⟨(mem_sortM m k).1 hk, rfl⟩
  · rintro ⟨h1, h2⟩
    obtain ⟨x1, x2, u⟩ := x
    have h2 : x2 = gA z m x1 := h2
    subst h2
    exact ⟨x1, (mem_sortM m _).2 h1, rfl⟩
theorem SortR.nodup {l : RV α} (h : SortR l) : l.Nodup := h.imp fun {a b} q e => by
  subst e; rw [swo3.irrefl] at q; cases q
theorem rows_unique {l l' : RV α} (h : SortR l) (h' : SortR l') (hm : ∀ x, x ∈ l ↔ x ∈ l') : l = l' := by
  have n1 : l.Nodup := SortR.nodup h
  have n2 : l'.Nodup := SortR.nodup h'
  have hp : l.Perm l' := (List.perm_ext_iff_of_nodup n1 n2).2 hm
  have h1 : l.Pairwise fun a b => ltOf cmp3 a.1 b.1 = true := h
  have h2 : l'.Pairwise fun a b => ltOf cmp3 a.1 b.1 = true := h'
  have hany : ∀ a b : KE × α × Unit, a ∈ l → b ∈ l' → ltOf cmp3 a.1 b.1 = true → ltOf cmp3 b.1 a.1 = true → a = b := fun a b _ _ q1 q2 => by
    rw [lt_asymm q1] at q2; cases q2
  exact List.Perm.eq_of_pairwise hany h1 h2 hp
theorem SortR.head {x : KE × α × Unit} {l : RV α} (h : SortR (x :: l)) : ∀ y ∈ l, ltOf cmp3 x.1 y.1 = true := (List.pairwise_cons.1 h).1
theorem SortR.tail {x : KE × α × Unit} {l : RV α} (h : SortR (x :: l)) : SortR l := (List.pairwise_cons.1 h).2

/-- A row more, at its place. -/
def insS (k : KE) (v : α) : RV α → RV α
  | [] => [(k, (v, ()))]
  | x :: l => if ltOf cmp3 x.1 k = true then x :: insS k v l else if x.1 = k then (k, (v, ())) :: l else (k, (v, ())) :: x :: l
theorem insS_mem (k : KE) (v : α) : ∀ (l : RV α), SortR l → ∀ x, x ∈ insS k v l ↔ x = (k, (v, ())) ∨ (x ∈ l ∧ x.1 ≠ k)
  | [], _, x => by simp [insS]
  | e :: l, h, x => by
    rw [insS]
    by_cases h1 : ltOf cmp3 e.1 k = true
    · have hne : e.1 ≠ k := fun q => by rw [q, swo3.irrefl] at h1; cases h1
      rw [if_pos h1, List.mem_cons, insS_mem k v l h.tail, List.mem_cons]
      constructor
      · rintro (q | q | ⟨q1, q2⟩)
        · exact .inr ⟨.inl q, by rw [q]; exact hne⟩
        · exact .inl q
        · exact .inr ⟨.inr q1, q2⟩
      · rintro (q | ⟨q1 | q1, q2⟩)
        · exact .inr (.inl q)
        · exact .inl q1
        · exact .inr (.inr ⟨q1, q2⟩)
    · rw [if_neg h1]
      by_cases h2 : e.1 = k
      · rw [if_pos h2, List.mem_cons, List.mem_cons]
        constructor
        · rintro (q | q)
          · exact .inl q
          · refine .inr ⟨.inr q, fun e' => ?_⟩
            have := h.head x q
            rw [h2, e', swo3.irrefl] at this; cases this
        · rintro (q | ⟨q1 | q1, q2⟩)
          · exact .inl q
          · exact absurd (by rw [q1]; exact h2) q2
          · exact .inr q1
      · rw [if_neg h2, List.mem_cons, List.mem_cons]
        have hlt : ltOf cmp3 k e.1 = true := by
          cases hq : ltOf cmp3 k e.1 with
          | true => rfl
          | false => exact absurd (tot3 e.1 k (by simpa using h1) hq) h2
        constructor
        · rintro (q | q | q)
          · exact .inl q
          · exact .inr ⟨.inl q, by rw [q]; exact h2⟩
          · refine .inr ⟨.inr q, fun e' => ?_⟩
            have := swo3.trans _ _ _ hlt (h.head x q)
            rw [e', swo3.irrefl] at this; cases this
        · rintro (q | ⟨q1 | q1, q2⟩)
          · exact .inl q
          · exact .inr (.inl q1)
          · exact .inr (.inr q1)
theorem insS_sorted (k : KE) (v : α) : ∀ (l : RV α), SortR l → SortR (insS k v l)
  | [], _ => List.pairwise_singleton _ _
  | e :: l, h => by
    rw [insS]
    by_cases h1 : ltOf cmp3 e.1 k = true
    · rw [if_pos h1]
      refine List.pairwise_cons.2 ⟨fun y hy => ?_, insS_sorted k v l h.tail⟩
      rcases (insS_mem k v l h.tail y).1 hy with q | ⟨q, _⟩
      · rw [q]; exact h1
      · exact h.head y q
    · rw [if_neg h1]
      by_cases h2 : e.1 = k
      · rw [if_pos h2]
        exact List.pairwise_cons.2 ⟨fun y hy => by show ltOf cmp3 k y.1 = true; rw [← h2]; exact h.head y hy, h.tail⟩
      · rw [if_neg h2]
        have hlt : ltOf cmp3 k e.1 = true := by
          cases hq : ltOf cmp3 k e.1 with
          | true => rfl
          | false => exact absurd (tot3 e.1 k (by simpa using h1) hq) h2
        refine List.pairwise_cons.2 ⟨fun y hy => ?_, h⟩
        rcases List.mem_cons.1 hy with q | q
        · rw [q]; exact hlt
        · exact swo3.trans _ _ _ hlt (h.head y q)
theorem rows_put {m : MV α} (h : (keysM m).Nodup) (k : KE) (v : α) : rowsM z (pA m k v) = insS k v (rowsM z m) := by
  refine rows_unique (rows_sorted (nodup_put h k v)) (insS_sorted k v _ (rows_sorted h)) fun x => ?_
  rw [mem_rows, insS_mem k v _ (rows_sorted h), mem_put, getM_put, mem_rows]
  obtain ⟨x1, x2, -⟩ := x
  show (x1 = k ∨ x1 ∈ keysM m) ∧ x2 = (if x1 = k then v else gA z m x1) ↔ ((x1, (x2, ())) = (k, (v, ()))) ∨ (x1 ∈ keysM m ∧ x2 = gA z m x1) ∧ x1 ≠ k
  by_cases q : x1 = k
  · subst q
    rw [if_pos rfl]
    constructor
    · rintro ⟨-, e⟩; exact .inl (by rw [e])
    · rintro (e | ⟨-, e⟩)
      · cases e; exact ⟨.inl rfl, rfl⟩
      · exact absurd rfl e
  · rw [if_neg q]
    constructor
    · rintro ⟨e | e, e2⟩
      · exact absurd e q
      · exact .inr ⟨⟨e, e2⟩, q⟩
    · rintro (e | ⟨⟨e, e2⟩, -⟩)
      · cases e; exact absurd rfl q
      · exact ⟨.inr e, e2⟩
theorem rows_del {m : MV α} (h : (keysM m).Nodup) (k : KE) : rowsM z (dA m k) = (rowsM z m).filter fun x => decide (x.1 ≠ k) := by
  have hk := keys_del m k
  refine rows_unique (rows_sorted (by rw [hk]; exact h.erase k)) ((rows_sorted h).sublist List.filter_sublist) fun x => ?_
  rw [mem_rows, List.mem_filter, mem_rows, hk, h.mem_erase_iff, decide_eq_true_eq]
  constructor
  · rintro ⟨⟨a, b⟩, c⟩
    rw [getM_del m k x.1 a] at c
    exact ⟨⟨b, c⟩, a⟩
  · rintro ⟨⟨b, c⟩, a⟩
    rw [getM_del m k x.1 a]
    exact ⟨⟨a, b⟩, c⟩
/-- A key's row. -/
theorem rows_find {m : MV α} (k : KE) : (rowsM z m).find? (fun x => eqE kKey x.1 k) = if k ∈ keysM m then some (k, (gA z m k, ())) else none := by
  by_cases h : k ∈ keysM m
  · rw [if_pos h]
    have hm : (k, (gA z m k, ())) ∈ rowsM z m := (mem_rows _).2 ⟨h, rfl⟩
    cases hf : (rowsM z m).find? (fun x => eqE kKey x.1 k) with
    | none => have := (List.find?_eq_none.1 hf) _ hm; exact absurd (eqK_refl k) this
    | some y =>
      have h1 := List.find?_some hf
      have h2 := (mem_rows y).1 (List.mem_of_find?_eq_some hf)
      have h3 : y.1 = k := eqK_iff.1 h1
      obtain ⟨y1, y2, u⟩ := y
      have e3 : y1 = k := h3
      have h4 : y2 = gA z m y1 := h2.2
      rw [h4, e3]
  · rw [if_neg h, List.find?_eq_none]
    intro x hx hq
    have := ((mem_rows x).1 hx).1
    rw [eqK_iff.1 hq] at this
    exact h this
end
end Go.Proofs.Pure

/- What the sign of a sum tells. -/
namespace Go.Proofs.Pure
open Go.Proofs.D Go.Proofs.F

theorem wrap_bv (b : BitVec 64) : IntKind.i64.wrap (b.toNat : Int) = b.toInt := by
  rw [BitVec.toInt_eq_toNat_cond]
  have := b.isLt
  unfold IntKind.wrap
  simp only [IntKind.bits, IntKind.signed, Bool.true_and, decide_eq_true_eq, show (2 : Int) ^ 64 = 18446744073709551616 by decide, show (2 : Int) ^ (64 - 1) = 9223372036854775808 by decide, show (2 : Nat) ^ 64 = 18446744073709551616 by decide] at *
  split <;> split <;> omega
theorem msb_ofInt {x : Int} (h1 : -9223372036854775808 ≤ x) (h2 : x < 9223372036854775808) : (BitVec.ofInt 64 x).msb = decide (x < 0) := by
  rw [BitVec.msb_eq_toInt, BitVec.toInt_ofInt]
  have : x.bmod (2 ^ 64) = x := by
    rw [Int.bmod_def]
    simp only [show ((2 : Nat) ^ 64 : Nat) = 18446744073709551616 by decide]
    split <;> omega
  rw [this]
theorem addBits {x y s : Int} (hx : -9223372036854775808 ≤ x ∧ x < 9223372036854775808) (hy : -9223372036854775808 ≤ y ∧ y < 9223372036854775808) (hs : -9223372036854775808 ≤ s ∧ s < 9223372036854775808) :
    decide (bitsAnd .i64 (bitsXor .i64 x s) (bitsXor .i64 y s) < 0) = ((decide (x < 0) ^^ decide (s < 0)) && (decide (y < 0) ^^ decide (s < 0))) := by
  have e : ∀ b : BitVec 64, (BitVec.ofInt 64 b.toInt) = b := fun b => BitVec.ofInt_toInt
  have hb : bitsAnd .i64 (bitsXor .i64 x s) (bitsXor .i64 y s) = ((BitVec.ofInt 64 x ^^^ BitVec.ofInt 64 s) &&& (BitVec.ofInt 64 y ^^^ BitVec.ofInt 64 s)).toInt := by
    unfold bitsAnd bitsXor
    show IntKind.i64.wrap (((BitVec.ofInt 64 (IntKind.i64.wrap ((BitVec.ofInt 64 x ^^^ BitVec.ofInt 64 s).toNat : Int))) &&& (BitVec.ofInt 64 (IntKind.i64.wrap ((BitVec.ofInt 64 y ^^^ BitVec.ofInt 64 s).toNat : Int)))).toNat : Int) = _
    rw [wrap_bv, wrap_bv, wrap_bv, e, e]
  rw [hb]
  have := BitVec.msb_eq_toInt (x := (BitVec.ofInt 64 x ^^^ BitVec.ofInt 64 s) &&& (BitVec.ofInt 64 y ^^^ BitVec.ofInt 64 s))
  rw [← this, BitVec.msb_and, BitVec.msb_xor, BitVec.msb_xor, msb_ofInt hx.1 hx.2, msb_ofInt hy.1 hy.2, msb_ofInt hs.1 hs.2]
def I64 (x : Int) : Prop := -9223372036854775808 ≤ x ∧ x < 9223372036854775808
theorem wrap_range (n : Int) : I64 (IntKind.i64.wrap n) := by
  unfold I64 IntKind.wrap
  simp only [IntKind.bits, IntKind.signed, Bool.true_and, decide_eq_true_eq, show (2 : Int) ^ 64 = 18446744073709551616 by decide, show (2 : Int) ^ (64 - 1) = 9223372036854775808 by decide]
  split <;> omega
theorem wrap_mod (n : Int) : ∃ q : Int, IntKind.i64.wrap n = n + 18446744073709551616 * q := by
  unfold IntKind.wrap
  simp only [IntKind.bits, IntKind.signed, Bool.true_and, decide_eq_true_eq, show (2 : Int) ^ 64 = 18446744073709551616 by decide, show (2 : Int) ^ (64 - 1) = 9223372036854775808 by decide]
  split
  · exact ⟨-(n / 18446744073709551616) - 1, by omega⟩
  · exact ⟨-(n / 18446744073709551616), by omega⟩
instance (x : Int) : Decidable (I64 x) := by unfold I64; exact inferInstance
def addF (a b : Int) : Int × Bool × Unit := if I64 (a + b) then (a + b, (true, ())) else (0, (false, ()))
theorem add_val {a b : Int} (ha : I64 a) (hb : I64 b) : calc_Add a b = some (addF a b) := by
  unfold calc_Add
  have hs := wrap_range (a + b)
  obtain ⟨q, hq⟩ := wrap_mod (a + b)
  rw [addBits ha hb hs]
  unfold addF
  generalize IntKind.i64.wrap (a + b) = s at *
  by_cases h : I64 (a + b)
  · rw [if_pos h]
    unfold I64 at *
    have e : s = a + b := by omega
    subst e
    by_cases h1 : a < 0 <;> by_cases h2 : b < 0 <;> by_cases h3 : a + b < 0 <;> simp [h1, h2, h3] <;> omega
  · rw [if_neg h]
    unfold I64 at *
    by_cases h1 : a < 0 <;> by_cases h2 : b < 0 <;> by_cases h3 : s < 0 <;> simp [h1, h2, h3] <;> omega
end Go.Proofs.Pure

/- What the reference's sum answers: the same. -/
namespace Go.Proofs.Pure
open Go.Proofs.D Go.Proofs.F

theorem halves_val {a : Int} (h1 : -9223372036854775808 ≤ a) (h2 : a < 9223372036854775808) : pledgeref01_halves a = some (a / 4294967296, (a % 4294967296, ())) := by
  unfold pledgeref01_halves pledgeref01_halves_v2
  by_cases h : a < 0
  · rw [dec_t h]
    have e1 : IntKind.i64.wrap (a + 1) = a + 1 := wrap_i64 (by omega) (by omega)
    have e2 : IntKind.i64.wrap (0 - (a + 1)) = -(a + 1) := by rw [wrap_i64 (by omega) (by omega)]; omega
    simp only [cond_true, e1, e2]
    rw [dec_f (by omega : ¬ -(a + 1) < 0)]
    simp only [cond_false, Option.bind_some]
    have e3 : Int.tdiv (-(a + 1)) 4294967296 = -(a + 1) / 4294967296 := Int.tdiv_eq_ediv_of_nonneg (by omega)
    have e4 : Int.tmod (-(a + 1)) 4294967296 = -(a + 1) % 4294967296 := Int.tmod_eq_emod_of_nonneg (by omega)
    have w1 : IntKind.i64.wrap (-(a + 1) / 4294967296) = -(a + 1) / 4294967296 := wrap_i64 (by omega) (by omega)
    have w2 : IntKind.i64.wrap (-1 - -(a + 1) / 4294967296) = -1 - -(a + 1) / 4294967296 := wrap_i64 (by omega) (by omega)
    have w3 : IntKind.i64.wrap (4294967295 - -(a + 1) % 4294967296) = 4294967295 - -(a + 1) % 4294967296 := wrap_i64 (by omega) (by omega)
    simp only [e3, e4, w1, w2, w3]
    have g1 : -1 - -(a + 1) / 4294967296 = a / 4294967296 := by omega
    have g2 : 4294967295 - -(a + 1) % 4294967296 = a % 4294967296 := by omega
    rw [g1, g2]
  · rw [dec_f h]
    have e3 : Int.tdiv a 4294967296 = a / 4294967296 := Int.tdiv_eq_ediv_of_nonneg (by omega)
    have e4 : Int.tmod a 4294967296 = a % 4294967296 := Int.tmod_eq_emod_of_nonneg (by omega)
    simp only [cond_false, e3, e4]
    rw [wrap_i64 (by omega) (by omega)]

theorem total_take (l : List Int) {j : Nat} (hj : j < l.length) : total (l.take (j + 1)) = total (l.take j) + l[j] := by
  rw [List.take_add_one, List.getElem?_eq_getElem hj, total_append]; simp [total]

theorem refsum_loop (l : List Int) (hl : l.length < 1000000) (hx : ∀ x ∈ l, -9223372036854775808 ≤ x ∧ x < 9223372036854775808) : ∀ (k j : Nat), j + k = l.length →
    iterL pledgeref01_Sum.l1 (k + 1) ((l, ((), (j : Int))), ((total (l.take j) / 4294967296, (total (l.take j) % 4294967296, ())), ())) = some ((), ((total l / 4294967296, (total l % 4294967296, ())), ()))
  | 0, j, h => by
    have e : l.take j = l := List.take_of_length_le (by omega)
    rw [e]
    refine iterL_done ?_
    unfold pledgeref01_Sum.l1
    simp only [dec_f (show ¬ (j : Int) < (l.length : Int) by omega), cond_false]
  | k + 1, j, h => by
    have hj : j < l.length := by omega
    have hget : l[j]? = some l[j] := List.getElem?_eq_getElem hj
    obtain ⟨b1, b2⟩ := hx l[j] (List.getElem_mem hj)
    have htake := total_take l hj
    have hb := total_bound (l.take j) fun x hx' => hx x (List.mem_of_mem_take hx')
    have hlen : ((l.take j).length : Int) < 1000000 := by rw [List.length_take]; omega
    generalize hT : total (l.take j) = t at hb htake
    have hstep : pledgeref01_Sum.l1 ((l, ((), (j : Int))), ((t / 4294967296, (t % 4294967296, ())), ())) = some (.inl ((l, ((), ((j + 1 : Nat) : Int))), ((total (l.take (j + 1)) / 4294967296, (total (l.take (j + 1)) % 4294967296, ())), ()))) := by
      unfold pledgeref01_Sum.l1
      simp only [dec_t (show (j : Int) < (l.length : Int) by omega), cond_true]
      rw [nthK_get hget, halves_val b1 b2, Option.bind_some, succ_i64 (by omega), htake]
      have e1 : IntKind.i64.wrap (t % 4294967296 + l[j] % 4294967296) = t % 4294967296 + l[j] % 4294967296 := wrap_i64 (by omega) (by omega)
      have e2 : IntKind.i64.wrap (t / 4294967296 + l[j] / 4294967296) = t / 4294967296 + l[j] / 4294967296 := wrap_i64 (by omega) (by omega)
      simp only [e1, e2]
      by_cases q : t % 4294967296 + l[j] % 4294967296 ≥ 4294967296
      · rw [dec_t q]
        simp only [cond_true]
        rw [wrap_i64 (n := t / 4294967296 + l[j] / 4294967296 + 1) (by omega) (by omega), wrap_i64 (n := t % 4294967296 + l[j] % 4294967296 - 4294967296) (by omega) (by omega)]
        rw [show t / 4294967296 + l[j] / 4294967296 + 1 = (t + l[j]) / 4294967296 by omega, show t % 4294967296 + l[j] % 4294967296 - 4294967296 = (t + l[j]) % 4294967296 by omega]
      · rw [dec_f q]
        simp only [cond_false]
        rw [show t / 4294967296 + l[j] / 4294967296 = (t + l[j]) / 4294967296 by omega, show t % 4294967296 + l[j] % 4294967296 = (t + l[j]) % 4294967296 by omega]
    rw [iterL_next hstep]
    exact refsum_loop l hl hx k (j + 1) (by omega)

theorem refsum_all (l : List Int) (hl : l.length < 1000000) (hx : ∀ x ∈ l, -9223372036854775808 ≤ x ∧ x < 9223372036854775808) : pledgeref01_Sum l = some (sumOf l) := by
  unfold pledgeref01_Sum sumOf fitsI
  have := iterL_mono (refsum_loop l hl hx l.length 0 (by omega)) (m := loopN) (by rw [loopN_eq]; omega)
  simp only [List.take_zero, total, show (0 : Int) / 4294967296 = 0 by decide, show (0 : Int) % 4294967296 = 0 by decide] at this
  rw [show (((0 : Nat) : Int)) = 0 from rfl] at this
  rw [this, Option.bind_some]
  have hb := total_bound l hx
  have hlen : (l.length : Int) < 1000000 := by omega
  simp only []
  by_cases h1 : total l / 4294967296 < -2147483648
  · rw [dec_t h1, dec_f (by omega : ¬ -9223372036854775808 ≤ total l)]; rfl
  · rw [dec_f h1]
    by_cases h2 : total l / 4294967296 > 2147483647
    · rw [dec_t h2, dec_f (by omega : ¬ total l < 9223372036854775808), Bool.and_false]; rfl
    · rw [dec_f h2, dec_t (by omega : -9223372036854775808 ≤ total l), dec_t (by omega : total l < 9223372036854775808)]
      simp only [cond_false, Bool.and_true, if_true]
      rw [wrap_i64 (n := total l / 4294967296 * 4294967296) (by omega) (by omega), wrap_i64 (by omega) (by omega), show total l / 4294967296 * 4294967296 + total l % 4294967296 = total l by omega]
end Go.Proofs.Pure

/- A fund's fields, and the document's rows. -/
namespace Go.Proofs.Pure
open Go.Proofs.D Go.Proofs.F

theorem bind_of {α β : Type} {o : Option α} {x : α} {f : α → Option β} (h : o = some x) : o.bind f = f x := by rw [h]; rfl
theorem less_val (a b : KE) : pledgeref04_Less a b = some (ltOf cmp3 a b) := by
  unfold pledgeref04_Less
  rw [lt3]
  by_cases h1 : a.1 = b.1
  · rw [show ((a.1 : Int) != b.1) = false by simpa using h1]
    by_cases h2 : a.2.1 = b.2.1
    · rw [show ((a.2.1 : Int) != b.2.1) = false by simpa using h2]
      simp only [cond_false]
      congr 1
      rw [Bool.eq_iff_iff]; simp only [decide_eq_true_eq]; omega
    · rw [show ((a.2.1 : Int) != b.2.1) = true by simpa using h2]
      simp only [cond_false, cond_true]
      congr 1
      rw [Bool.eq_iff_iff]; simp only [decide_eq_true_eq]; omega
  · rw [show ((a.1 : Int) != b.1) = true by simpa using h1]
    simp only [cond_true]
    congr 1
    rw [Bool.eq_iff_iff]; simp only [decide_eq_true_eq]; omega
abbrev FE := Int × Int × Int × Int × Int × Int × Unit
abbrev DE := KE × Int × Int × Int × Unit
abbrev FM := MV FE
abbrev FR := RV FE
def zF : FE := (0, (0, (0, (0, (0, (0, ()))))))
theorem getM_eq : ∀ (m : FM) (k : KE), (getM kKey kField m k : FE) = gA zF m k
  | [], _ => rfl
  | e :: r, k => by
    show (bif eqE kKey k e.1 then e.2 else getM kKey kField r k : FE) = if k = e.1 then e.2 else gA zF r k
    rw [eqK_dec]
    by_cases h : k = e.1
    · rw [dec_t h, if_pos h]; rfl
    · rw [dec_f h, if_neg h]; exact getM_eq r k
theorem putM_eq : ∀ (m : FM) (k : KE) (v : FE), (putM kKey kField m k v : FM) = pA m k v
  | [], _, _ => rfl
  | e :: r, k, v => by
    show (bif eqE kKey k e.1 then (k, v) :: r else e :: putM kKey kField r k v : FM) = if k = e.1 then (k, v) :: r else e :: pA r k v
    rw [eqK_dec]
    by_cases h : k = e.1
    · rw [dec_t h, if_pos h]; rfl
    · rw [dec_f h, if_neg h]; exact congrArg (e :: ·) (putM_eq r k v)
theorem hasM_eq : ∀ (m : FM) (k : KE), hasM kKey kField m k = hA m k
  | [], _ => rfl
  | e :: r, k => by
    show (eqE kKey k e.1 || hasM kKey kField r k) = (decide (k = e.1) || hA r k)
    rw [eqK_dec, hasM_eq r k]

theorem nest4 (a b c d : Bool) : (bif a then bif b then bif c then some d else some false else some false else some false) = some (a && b && c && d) := by cases a <;> cases b <;> cases c <;> rfl
theorem nest6 (a b c d e f : Bool) : (bif a then bif b then bif c then bif d then bif e then some f else some false else some false else some false else some false else some false) = some (a && b && c && d && e && f) := by cases a <;> cases b <;> cases c <;> cases d <;> cases e <;> rfl
def goodF (f : FE) : Bool := decide (f.1 ≤ f.2.2.2.1) && decide (f.2.2.2.1 ≤ f.2.2.1) && decide (f.2.2.2.1 ≤ f.2.2.2.2.2.1) && decide (f.2.2.1 ≤ f.2.2.2.2.1) && decide (f.2.2.2.2.2.1 ≤ f.2.2.2.2.1) && decide (f.2.2.2.2.1 ≤ f.2.1)
theorem good17_val (f : FE) : pledgeref17_Good f = some (goodF f) := nest6 _ _ _ _ _ _
theorem good_val (f : FE) : field_Good f = some (goodF f) := by
  refine (nest4 _ _ _ _).trans (congrArg some ?_)
  unfold goodF
  rw [Bool.eq_iff_iff]
  simp only [Bool.and_eq_true, decide_eq_true_eq]
  split <;> split <;> omega
def newF (d : DE) : FE × Int := if d.2.1 ≤ d.2.2.1 ∧ d.2.2.1 ≤ d.2.2.2.1 then ((d.2.1, (d.2.2.2.1, (d.2.2.1, (d.2.2.1, (d.2.2.1, (d.2.2.1, ())))))), 0) else ((0, (0, (0, (0, (0, (0, ())))))), 3)
theorem new_val (d : DE) : field_New d = some ((newF d).1, ((newF d).2, ())) := by
  unfold field_New
  rw [good_val]
  simp only [Option.bind_some]
  have : goodF (d.2.1, (d.2.2.2.1, (d.2.2.1, (d.2.2.1, (d.2.2.1, (d.2.2.1, ())))))) = decide (d.2.1 ≤ d.2.2.1 ∧ d.2.2.1 ≤ d.2.2.2.1) := by
    unfold goodF
    rw [Bool.eq_iff_iff]
    simp only [Bool.and_eq_true, decide_eq_true_eq]
    omega
  rw [this]
  unfold newF
  by_cases h : d.2.1 ≤ d.2.2.1 ∧ d.2.2.1 ≤ d.2.2.2.1
  · rw [dec_t h, if_pos h]; rfl
  · rw [dec_f h, if_neg h]; rfl
theorem new17_val (d : DE) : pledgeref17_New d = some ((newF d).1, ((newF d).2, ())) := by
  unfold pledgeref17_New newF
  by_cases h1 : d.2.1 > d.2.2.1
  · rw [dec_t h1, if_neg (by omega)]; rfl
  · rw [dec_f h1]
    by_cases h2 : d.2.2.1 > d.2.2.2.1
    · rw [dec_t h2, if_neg (by omega)]; rfl
    · rw [dec_f h2, if_pos (by omega)]; rfl

/-! ### Grant -/
def grantF (f : FE) (d : Int) : FE × Int :=
  if goodF f = false then (f, 12) else if d = 0 ∨ d = -9223372036854775808 then (f, 1) else
  if (addF (if d < 0 then f.2.2.2.1 else f.2.2.2.2.1) d).2.1 = false then (f, 2) else
  if (addF (if d < 0 then f.2.2.2.1 else f.2.2.2.2.1) d).1 < f.1 ∨ (addF (if d < 0 then f.2.2.2.1 else f.2.2.2.2.1) d).1 > f.2.1 then (f, 3) else
  ((f.1, (f.2.1, (f.2.2.1, (if d < 0 then (addF f.2.2.2.1 d).1 else f.2.2.2.1, (if d < 0 then f.2.2.2.2.1 else (addF f.2.2.2.2.1 d).1, (IntKind.i64.wrap (f.2.2.2.2.2.1 + d), ())))))), 0)
def FI (f : FE) : Prop := I64 f.2.2.2.1 ∧ I64 f.2.2.2.2.1
theorem wrong_val (f : FE) (d : Int) : field_wrong f d = some (if goodF f = false then 12 else if d = 0 ∨ d = -9223372036854775808 then 1 else 0) := by
  unfold field_wrong
  rw [good_val]
  simp only [Option.bind_some]
  cases goodF f with
  | false => rfl
  | true =>
    simp only [Bool.not_true, cond_false, Bool.true_eq_false, if_false]
    by_cases h1 : d = 0
    · subst h1; rfl
    · rw [show ((d : Int) == 0) = false by simpa using h1, cond_false]
      by_cases h2 : d = -9223372036854775808
      · rw [if_pos (.inr h2), show ((d : Int) == (-9223372036854775808)) = true by simpa using h2]; rfl
      · rw [if_neg (fun q => q.elim h1 h2), show ((d : Int) == (-9223372036854775808)) = false by simpa using h2]; rfl
theorem grant_val (f : FE) (d : Int) (hf : FI f) (hd : I64 d) : field_Grant f d = some ((grantF f d).1, ((grantF f d).2, ())) := by
  unfold field_Grant grantF
  rw [wrong_val]
  by_cases hg : goodF f = false
  · simp [hg]
  · by_cases h0 : d = 0 ∨ d = -9223372036854775808
    · simp [hg, h0]
    · simp only [if_neg hg, if_neg h0, Option.bind_some, bne_self_eq_false, cond_false]
      by_cases hn : d < 0
      · rw [dec_t hn]
        simp only [cond_true, if_pos hn]
        rw [add_val hf.1 hd]
        simp only [Option.bind_some]
        generalize addF f.2.2.2.1 d = n
        obtain ⟨n1, n2, -⟩ := n
        cases n2 with
        | false => rfl
        | true =>
          simp only [Bool.not_true, cond_false, Bool.true_eq_false, if_false]
          by_cases h1 : n1 < f.1
          · rw [dec_t h1, if_pos (.inl h1)]; rfl
          · by_cases h2 : n1 > f.2.1
            · rw [dec_f h1, dec_t h2, if_pos (.inr h2)]; rfl
            · rw [dec_f h1, dec_f h2, if_neg (fun q => q.elim h1 h2)]; rfl
      · rw [dec_f hn]
        simp only [cond_false, if_neg hn]
        rw [add_val hf.2 hd]
        simp only [Option.bind_some]
        generalize addF f.2.2.2.2.1 d = n
        obtain ⟨n1, n2, -⟩ := n
        cases n2 with
        | false => rfl
        | true =>
          simp only [Bool.not_true, cond_false, Bool.true_eq_false, if_false]
          by_cases h1 : n1 < f.1
          · rw [dec_t h1, if_pos (.inl h1)]; rfl
          · by_cases h2 : n1 > f.2.1
            · rw [dec_f h1, dec_t h2, if_pos (.inr h2)]; rfl
            · rw [dec_f h1, dec_f h2, if_neg (fun q => q.elim h1 h2)]; rfl
theorem refadd_val {a b : Int} (ha : I64 a) (hb : I64 b) : pledgeref01_Add a b = some (addF a b) := by
  unfold pledgeref01_Add
  rw [refsum_all [a, b] (by simp) (fun x hx => by
    simp only [List.mem_cons, List.not_mem_nil, or_false] at hx
    rcases hx with q | q <;> subst q
    · exact ha
    · exact hb)]
  simp only [Option.bind_some]
  unfold sumOf addF
  have ht : total [a, b] = a + b := by simp only [total]; omega
  rw [ht]
  have hf : fitsI (a + b) = decide (I64 (a + b)) := by
    rw [Bool.eq_iff_iff, decide_eq_true_iff]
    unfold fitsI I64
    simp only [Bool.and_eq_true, decide_eq_true_eq]
  rw [hf]
  by_cases h : I64 (a + b)
  · rw [if_pos (by simpa using h), if_pos h]
  · rw [if_neg (by simpa using h), if_neg h]
theorem first_val (f : FE) (d : Int) (hd : I64 d) : pledgeref17_first f d = some (if goodF f = false then 12 else if d = 0 ∨ d = -9223372036854775808 then 1 else 0) := by
  unfold pledgeref17_first
  rw [good17_val]
  simp only [Option.bind_some]
  cases goodF f with
  | false => rfl
  | true =>
    simp only [Bool.not_true, cond_false, Bool.true_eq_false, if_false]
    unfold I64 at hd
    by_cases h1 : d = 0
    · subst h1; rfl
    · rw [show ((d : Int) == 0) = false by simpa using h1, cond_false]
      by_cases h2 : d = -9223372036854775808
      · rw [if_pos (.inr h2), dec_t (by omega)]; rfl
      · rw [if_neg (fun q => q.elim h1 h2), dec_f (by omega)]; rfl
theorem grant17_val (f : FE) (d : Int) (hf : FI f) (hd : I64 d) : pledgeref17_Grant f d = some ((grantF f d).1, ((grantF f d).2, ())) := by
  unfold pledgeref17_Grant grantF
  rw [first_val f d hd]
  by_cases hg : goodF f = false
  · simp [hg]
  · by_cases h0 : d = 0 ∨ d = -9223372036854775808
    · simp [hg, h0]
    · simp only [if_neg hg, if_neg h0, Option.bind_some, bne_self_eq_false, cond_false]
      by_cases hn : d < 0
      · rw [dec_t hn]
        simp only [cond_true, if_pos hn, Option.bind_some]
        rw [refadd_val hf.1 hd]
        simp only [Option.bind_some]
        rw [dec_f (show ¬ d > 0 by omega)]
        generalize addF f.2.2.2.1 d = n
        obtain ⟨n1, n2, -⟩ := n
        cases n2 with
        | false => rfl
        | true =>
          simp only [Bool.not_true, cond_false, Bool.true_eq_false, if_false]
          by_cases h1 : n1 < f.1
          · rw [dec_t h1, if_pos (.inl h1)]; rfl
          · by_cases h2 : n1 > f.2.1
            · rw [dec_f h1, dec_t h2, if_pos (.inr h2)]; rfl
            · rw [dec_f h1, dec_f h2, if_neg (fun q => q.elim h1 h2)]; rfl
      · rw [dec_f hn]
        simp only [cond_false, if_neg hn, Option.bind_some]
        rw [refadd_val hf.2 hd]
        simp only [Option.bind_some]
        have hp : d > 0 := by
          have : d ≠ 0 := fun q => h0 (.inl q)
          omega
        rw [dec_t hp]
        generalize addF f.2.2.2.2.1 d = n
        obtain ⟨n1, n2, -⟩ := n
        cases n2 with
        | false => rfl
        | true =>
          simp only [Bool.not_true, cond_false, cond_true, Bool.true_eq_false, if_false]
          by_cases h1 : n1 < f.1
          · rw [dec_t h1, if_pos (.inl h1)]; rfl
          · by_cases h2 : n1 > f.2.1
            · rw [dec_f h1, dec_t h2, if_pos (.inr h2)]; rfl
            · rw [dec_f h1, dec_f h2, if_neg (fun q => q.elim h1 h2)]; rfl
theorem addF_range (a b : Int) : I64 (addF a b).1 := by
  unfold addF
  split
  · assumption
  · unfold I64; simp
theorem grantF_fi {f : FE} (h : FI f) (d : Int) : FI (grantF f d).1 := by
  unfold grantF
  by_cases h1 : goodF f = false
  · rw [if_pos h1]; exact h
  · rw [if_neg h1]
    by_cases h2 : d = 0 ∨ d = -9223372036854775808
    · rw [if_pos h2]; exact h
    · rw [if_neg h2]
      by_cases hn : d < 0
      · simp only [if_pos hn]
        by_cases h3 : (addF f.2.2.2.1 d).2.1 = false
        · rw [if_pos h3]; exact h
        · rw [if_neg h3]
          by_cases h4 : (addF f.2.2.2.1 d).1 < f.1 ∨ (addF f.2.2.2.1 d).1 > f.2.1
          · rw [if_pos h4]; exact h
          · rw [if_neg h4]; exact ⟨addF_range _ _, h.2⟩
      · simp only [if_neg hn]
        by_cases h3 : (addF f.2.2.2.2.1 d).2.1 = false
        · rw [if_pos h3]; exact h
        · rw [if_neg h3]
          by_cases h4 : (addF f.2.2.2.2.1 d).1 < f.1 ∨ (addF f.2.2.2.2.1 d).1 > f.2.1
          · rw [if_pos h4]; exact h
          · rw [if_neg h4]; exact ⟨h.1, addF_range _ _⟩

/-! ### The document's rows -/
def putG (r : KE × FE × Unit) (a : Bool × FR) (x : KE × FE × Unit) : Bool × FR :=
  if a.1 = false ∧ ltOf cmp3 x.1 r.1 = false then (true, if x.1 = r.1 then a.2 ++ [r] else a.2 ++ [r] ++ [x]) else (a.1, if x.1 = r.1 then a.2 else a.2 ++ [x])
theorem put_true (r : KE × FE × Unit) : ∀ (l acc : FR), (∀ x ∈ l, x.1 ≠ r.1) → l.foldl (putG r) (true, acc) = (true, acc ++ l)
  | [], acc, _ => by simp
  | x :: l, acc, h => by
    have e : putG r (true, acc) x = (true, acc ++ [x]) := by simp [putG, h x List.mem_cons_self]
    rw [List.foldl_cons, e, put_true r l _ fun y hy => h y (List.mem_cons_of_mem _ hy)]
    simp
theorem put_fold (r : KE × FE × Unit) : ∀ (l acc : FR), SortR l → (let a := l.foldl (putG r) (false, acc); if a.1 = true then a.2 else a.2 ++ [r]) = acc ++ insS r.1 r.2.1 l
  | [], acc, _ => rfl
  | x :: l, acc, h => by
    rw [insS]
    by_cases hq' : ltOf cmp3 x.1 r.1 = true
    · have hne : x.1 ≠ r.1 := fun q => by rw [q, swo3.irrefl] at hq'; cases hq'
      have e : putG r (false, acc) x = (false, acc ++ [x]) := by simp [putG, hq', hne]
      rw [List.foldl_cons, e, if_pos hq']
      refine (put_fold r l _ h.tail).trans ?_
      simp
    · rw [if_neg hq']
      have hq : ltOf cmp3 x.1 r.1 = false := by simpa using hq'
      have hnext : ∀ y ∈ l, y.1 ≠ r.1 := fun y hy q => by
        have h1 := h.head y hy
        rw [q] at h1
        rw [h1] at hq; cases hq
      by_cases h2 : x.1 = r.1
      · have e : putG r (false, acc) x = (true, acc ++ [r]) := by simp [putG, h2, swo3.irrefl]
        rw [List.foldl_cons, e, if_pos h2, put_true r l _ hnext]
        simp
      · have e : putG r (false, acc) x = (true, acc ++ [r] ++ [x]) := by simp [putG, hq, h2]
        rw [List.foldl_cons, e, if_neg h2, put_true r l _ hnext]
        simp
theorem putG_len (r : KE × FE × Unit) (a : Bool × FR) (x : KE × FE × Unit) : (putG r a x).2.length ≤ a.2.length + 2 := by
  unfold putG
  split <;> (simp only; split <;> simp <;> omega)
theorem put_len (r : KE × FE × Unit) : ∀ (l : FR) (a : Bool × FR), (l.foldl (putG r) a).2.length ≤ a.2.length + 2 * l.length
  | [], a => by simp
  | x :: l, a => by
    rw [List.foldl_cons]
    have h1 := put_len r l (putG r a x)
    have h2 := putG_len r a x
    simp only [List.length_cons]
    omega
theorem put18_val (l : FR) (r : KE × FE × Unit) (hl : l.length ≤ 100000) (hs : SortR l) : pledgeref18_put l r = some (insS r.1 r.2.1 l) := by
  unfold pledgeref18_put
  have := loop_walk (step := pledgeref18_put.l1) l (fun i (a : Bool × FR) => ((l, ((), ((), (a.1, (i : Int))))), (r, (a.2, ())))) (fun _ x a => .inl (putG r a x)) (fun a => (((), ((), a.1)), (r, (a.2, ())))) (fun i a => a.2.length ≤ 2 * i) (false, []) (by omega) (by simp) (fun i x a hx hI => by
    have hi := get_lt hx
    refine ⟨?_, fun a' e => ?_⟩
    · unfold pledgeref18_put.l1
      simp only [dec_t (show (i : Int) < (l.length : Int) by omega), cond_true]
      rw [nthK_get hx, less_val]
      simp only [Option.bind_some]
      rw [room_ok (by simp; omega)]
      obtain ⟨a1, a2⟩ := a
      simp only at hI
      cases a1 with
      | true =>
        simp only [Bool.not_true, cond_false, Option.bind_some]
        rw [nthK_get hx, nthK_get hx, eqK_dec, room_ok (by simp; omega), succ_i64 (by omega)]
        by_cases h2 : x.1 = r.1
        · rw [dec_t h2]
          simp [putG, h2]
        · rw [dec_f h2]
          simp [putG, h2]
      | false =>
        simp only [Bool.not_false, cond_true]
        cases hq : ltOf cmp3 x.1 r.1 with
        | true =>
          simp only [Bool.not_true, cond_false, Option.bind_some]
          rw [nthK_get hx, nthK_get hx, eqK_dec, room_ok (by simp; omega), succ_i64 (by omega)]
          by_cases h2 : x.1 = r.1
          · rw [dec_t h2]
            simp [putG, h2]
            rw [h2, swo3.irrefl] at hq; cases hq
          · rw [dec_f h2]
            simp [putG, h2, hq]
        | false =>
          simp only [Bool.not_false, cond_true, Option.bind_some]
          rw [nthK_get hx, nthK_get hx, eqK_dec, room_ok (by simp; omega), succ_i64 (by omega)]
          by_cases h2 : x.1 = r.1
          · rw [dec_t h2]
            simp [putG, h2, swo3.irrefl]
          · rw [dec_f h2]
            simp [putG, h2, hq]
    · cases e
      have := putG_len r a x
      omega) (fun a _ => by
    unfold pledgeref18_put.l1
    simp only [dec_f (show ¬ (l.length : Int) < (l.length : Int) by omega), cond_false])
  rw [show (((0 : Nat) : Int)) = 0 from rfl] at this
  refine (bind_of (f := _) this).trans ?_
  rw [walk_foldl]
  have hf := put_fold r l [] hs
  have hlen := put_len r l (false, [])
  simp only [List.nil_append] at hf
  rw [← hf]
  generalize l.foldl (putG r) (false, []) = a at hlen ⊢
  obtain ⟨a1, a2⟩ := a
  simp only [List.length_nil] at hlen
  cases a1 with
  | true => rfl
  | false =>
    show room (a2.length + 1) (some (a2 ++ [r])) = _
    rw [room_ok (by omega)]; rfl
theorem walk_find {α X : Type} (p : α → Bool) (g : α → X) (d : X) : ∀ (l : List α) (i : Nat), walkL (A := Unit) (fun _ x _ => bif p x then .inr (g x) else .inl ()) (fun _ => d) i l () = match l.find? p with | some x => g x | none => d
  | [], _ => rfl
  | x :: l, i => by
    rw [walkL, List.find?_cons]
    cases p x with
    | true => rfl
    | false => exact walk_find p g d l (i + 1)
theorem get18_val (l : FR) (k : KE) (hl : l.length ≤ 100000) : pledgeref18_Get l k = some (match l.find? (fun x => eqE kKey x.1 k) with | some x => (x.2.1, (true, ())) | none => ((0, (0, (0, (0, (0, (0, ())))))), (false, ()))) := by
  unfold pledgeref18_Get
  have := loop_walk (step := pledgeref18_Get.l1) l (fun i (_ : Unit) => ((l, ((), ((), (i : Int)))), (k, ((0, (0, (0, (0, (0, (0, ())))))), ())))) (fun _ x _ => bif eqE kKey x.1 k then .inr (.inr (((), true), (x.2.1, ()))) else .inl ()) (fun _ => .inl ((), ((0, (0, (0, (0, (0, (0, ())))))), ()))) (fun _ _ => True) () (by omega) trivial (fun i x _ hx _ => by
    have hi := get_lt hx
    refine ⟨?_, fun _ _ => trivial⟩
    unfold pledgeref18_Get.l1
    simp only [dec_t (show (i : Int) < (l.length : Int) by omega), cond_true]
    rw [nthK_get hx, nthK_get hx, succ_i64 (by omega)]
    cases eqE kKey x.1 k <;> rfl) (fun _ _ => by
    unfold pledgeref18_Get.l1
    simp only [dec_f (show ¬ (l.length : Int) < (l.length : Int) by omega), cond_false])
  rw [show (((0 : Nat) : Int)) = 0 from rfl] at this
  refine (bind_of (f := _) this).trans ?_
  rw [walk_find]
  cases l.find? (fun x => eqE kKey x.1 k) <;> rfl
theorem get_rows (m : FM) (k : KE) (hl : m.length ≤ 100000) : pledgeref18_Get (rowsM zF m) k = some (gA zF m k, (decide (k ∈ keysM m), ())) := by
  rw [get18_val _ _ (by rw [rows_len]; exact hl), rows_find]
  by_cases h : k ∈ keysM m
  · rw [if_pos h, dec_t h]
  · rw [if_neg h, dec_f h, getM_none m k h]; rfl

theorem fget_val (m : FM) (k : KE) : fund_Fund_Get () k ((), ()) ((), ()) m = some ((gA zF m k, (hA m k, ())), (((), ()), (((), ()), (m, ())))) := by
  rw [← getM_eq, ← hasM_eq]; rfl
theorem fput_val (m : FM) (k : KE) (v : FE) : table_Table_api_Field_Put () k v ((), ()) m = some ((), (((), ()), (pA m k v, ()))) := by
  rw [← putM_eq]; rfl
/-! ### A new fund -/
def newG (m : FM) (d : DE) : FM := if (newF d).2 = 0 then pA m d.1 (newF d).1 else m
def newM (l : List DE) : FM := l.foldl newG []
structure FOk (m : FM) (n : Nat) : Prop where
  nd : (keysM m).Nodup
  len : m.length ≤ n
  fi : ∀ p ∈ m, FI p.2
theorem mem_putM {m : FM} {k : KE} {v : FE} : ∀ {p : KE × FE}, p ∈ pA m k v → p.2 = v ∨ p ∈ m := by
  induction m with
  | nil => intro p hp; exact .inl (by rw [List.mem_singleton.1 (show p ∈ [(k, v)] from hp)])
  | cons e r ih =>
    intro p hp
    have hp : p ∈ pA (e :: r) k v := hp
    rw [putM_cons] at hp
    split at hp
    · rcases List.mem_cons.1 hp with q | q
      · exact .inl (by rw [q])
      · exact .inr (List.mem_cons_of_mem _ q)
    · rcases List.mem_cons.1 hp with q | q
      · exact .inr (by rw [q]; exact List.mem_cons_self)
      · exact (ih q).imp id (List.mem_cons_of_mem _)
theorem FOk.put {m : FM} {n : Nat} (h : FOk m n) (k : KE) {v : FE} (hv : FI v) : FOk (pA m k v) (n + 1) :=
  ⟨nodup_put h.nd k v, by have := len_put m k v; have := h.len; omega, fun p hp => by
    rcases mem_putM hp with q | q
    · rw [q]; exact hv
    · exact h.fi p q⟩
theorem FOk.up {m : FM} {n n' : Nat} (h : FOk m n) (hn : n ≤ n') : FOk m n' := ⟨h.nd, Nat.le_trans h.len hn, h.fi⟩
theorem FOk.over {m : FM} {n : Nat} (h : FOk m n) {k : KE} (hk : k ∈ keysM m) {v : FE} (hv : FI v) : FOk (pA m k v) n :=
  ⟨nodup_put h.nd k v, by have := h.len; rw [← len_keys, keys_put, if_pos hk, len_keys]; exact this, fun p hp => by
    rcases mem_putM hp with q | q
    · rw [q]; exact hv
    · exact h.fi p q⟩
theorem zero_fi : FI (zF) := ⟨by show I64 0; unfold I64; simp, by show I64 0; unfold I64; simp⟩
theorem getM_fi {m : FM} (h : ∀ p ∈ m, FI p.2) (k : KE) : FI (gA zF m k) := by
  induction m with
  | nil => exact zero_fi
  | cons e r ih =>
    have : gA zF (e :: r) k = if k = e.1 then e.2 else gA zF r k := rfl
    rw [this]
    split
    · exact h e List.mem_cons_self
    · exact ih fun p hp => h p (List.mem_cons_of_mem _ hp)
theorem newF_fi {d : DE} (h : I64 d.2.2.1) : FI (newF d).1 := by
  unfold newF
  split
  · exact ⟨h, h⟩
  · exact zero_fi
theorem newG_ok {m : FM} {n : Nat} (h : FOk m n) {d : DE} (hd : I64 d.2.2.1) : FOk (newG m d) (n + 1) := by
  unfold newG
  split
  · exact h.put _ (newF_fi hd)
  · exact h.up (by omega)
theorem newM_ok {l : List DE} (hd : ∀ d ∈ l, I64 d.2.2.1) : FOk (newM l) l.length := by
  have : ∀ (l : List DE) (m : FM) (n : Nat), (∀ d ∈ l, I64 d.2.2.1) → FOk m n → FOk (l.foldl newG m) (n + l.length) := by
    intro l
    induction l with
    | nil => intro m n _ h; exact h
    | cons d r ih =>
      intro m n hd h
      have := ih (newG m d) (n + 1) (fun x hx => hd x (List.mem_cons_of_mem _ hx)) (newG_ok h (hd d List.mem_cons_self))
      rw [List.foldl_cons, List.length_cons]
      rwa [show n + (r.length + 1) = n + 1 + r.length by omega]
  have h := this l [] 0 hd ⟨List.nodup_nil, Nat.le_refl _, fun p hp => by cases hp⟩
  rwa [Nat.zero_add] at h
theorem fundNew_val (l : List DE) (hl : l.length ≤ 1000) : fund_New l = some ((), (((), ()), (((), ()), (newM l, ())))) := by
  unfold fund_New
  have h0 : table_New_api_Field = some ((), (((), ()), ([], ()))) := rfl
  rw [h0]
  simp only [Option.bind_some]
  have := loop_walk (step := fund_New.l1) l (fun i (m : FM) => (((), (l, ((l.length : Int), (i : Int)))), (((), ()), (((), ()), (m, ()))))) (fun _ d m => .inl (newG m d)) (fun m => ((), (((), ()), (((), ()), (m, ()))))) (fun _ _ => True) [] (by omega) trivial (fun i d m hx _ => by
    have hi := get_lt hx
    refine ⟨?_, fun _ _ => trivial⟩
    unfold fund_New.l1
    simp only [dec_t (show (i : Int) < (l.length : Int) by omega), cond_true]
    rw [nthK_get hx, new_val, succ_i64 (by omega)]
    simp only [Option.bind_some]
    rw [fput_val]
    unfold newG
    by_cases h : (newF d).2 = 0
    · rw [if_pos h, show (((newF d).2 : Int) == 0) = true by simpa using h]; rfl
    · rw [if_neg h, show (((newF d).2 : Int) == 0) = false by simpa using h]; rfl) (fun m _ => by
    unfold fund_New.l1
    simp only [dec_f (show ¬ (l.length : Int) < (l.length : Int) by omega), cond_false])
  rw [show (((0 : Nat) : Int)) = 0 from rfl, walk_foldl] at this
  exact (bind_of (f := _) this).trans rfl
theorem refNew_val (l : List DE) (hl : l.length ≤ 1000) (hd : ∀ d ∈ l, I64 d.2.2.1) : pledgeref18_New l = some (rowsM zF (newM l)) := by
  unfold pledgeref18_New
  have := loop_walk (step := pledgeref18_New.l1) l (fun i (m : FM) => (l, (rowsM zF m, (i : Int)))) (fun _ d m => .inl (newG m d)) (fun m => rowsM zF m) (fun i m => FOk m i) [] (by omega) ⟨List.nodup_nil, Nat.le_refl _, fun p hp => by cases hp⟩ (fun i d m hx hI => by
    have hi := get_lt hx
    refine ⟨?_, fun m' e => by cases e; exact newG_ok hI (hd d (get_mem hx))⟩
    unfold pledgeref18_New.l1
    simp only [dec_t (show (i : Int) < (l.length : Int) by omega), cond_true]
    rw [nthK_get hx, new17_val]
    simp only [Option.bind_some]
    rw [nthK_get hx, succ_i64 (by omega)]
    rw [put18_val _ _ (by rw [rows_len]; have := hI.len; omega) (rows_sorted hI.nd)]
    simp only [Option.bind_some]
    unfold newG
    by_cases h : (newF d).2 = 0
    · rw [if_pos h, show (((newF d).2 : Int) == 0) = true by simpa using h, rows_put hI.nd]; rfl
    · rw [if_neg h, show (((newF d).2 : Int) == 0) = false by simpa using h]; rfl) (fun m _ => by
    unfold pledgeref18_New.l1
    simp only [dec_f (show ¬ (l.length : Int) < (l.length : Int) by omega), cond_false])
  have he : (rowsM zF ([] : FM)) = [] := by simp [rowsM, sortM, keysM]
  rw [show (((0 : Nat) : Int)) = 0 from rfl, walk_foldl, he] at this
  exact (bind_of (f := _) this).trans rfl

/-! ### A fund that has just these rows -/
theorem eqF_refl (f : FE) : eqE kField f f = true := eqE_rfl (c := kField) f rfl
theorem walk_id {α X : Type} (d : X) : ∀ (l : List α) (i : Nat), walkL (A := Unit) (X := X) (fun _ _ _ => .inl ()) (fun _ => d) i l () = d
  | [], _ => rfl
  | _ :: l, i => walk_id d l (i + 1)
theorem rows_at {m : FM} {i : Nat} {x : KE × FE × Unit} (h : (rowsM zF m)[i]? = some x) : (sortM m)[i]? = some x.1 ∧ x.1 ∈ keysM m ∧ x.2.1 = gA zF m x.1 := by
  have hm := (mem_rows x).1 (get_mem h)
  refine ⟨?_, hm⟩
  unfold rowsM at h
  rw [List.getElem?_map] at h
  obtain ⟨k, h1, h2⟩ := Option.map_eq_some_iff.1 h
  rw [h1, ← h2]
theorem same_val (m : FM) (hl : m.length ≤ 100000) : pledgelaw18_Same () (rowsM zF m) ((), ()) ((), ()) m = some (1, (((), ()), (((), ()), (m, ())))) := by
  have hk : fund_Fund_Keys () ((), ()) ((), ()) m = some (sortM m, (((), ()), (((), ()), (m, ())))) := by
    have : table_Table_api_Field_Keys m = some (sortM m, (((), ()), (m, ()))) := by
      show (bif Nat.ble m.length 4294967296 then some (sortM m, (((), ()), (m, ()))) else none) = _
      rw [Nat.ble_eq_true_of_le (by omega)]; rfl
    exact (bind_of (f := _) this).trans rfl
  have hs : pledgelaw18_sameRows () (rowsM zF m) ((), ()) ((), ()) m = some (true, (((), ()), (((), ()), (m, ())))) := by
    refine (bind_of (f := _) hk).trans ?_
    simp only
    rw [show (((sortM m).length : Int) != ((rowsM zF m).length : Int)) = false by rw [sortM_len, rows_len]; simp, cond_false]
    have := loop_walk (step := pledgelaw18_sameRows.l1) (rowsM zF m) (fun i (_ : Unit) => (((), (rowsM zF m, (sortM m, (i : Int)))), (((), ()), (((), ()), (m, ()))))) (fun _ _ _ => .inl ()) (fun _ => .inl ((), (((), ()), (((), ()), (m, ()))))) (fun _ _ => True) () (by rw [rows_len]; omega) trivial (fun i x _ hx _ => by
      have hi := get_lt hx
      have hi2 : i < m.length := by rwa [rows_len] at hi
      refine ⟨?_, fun _ _ => trivial⟩
      obtain ⟨r1, r2, r3⟩ := rows_at hx
      unfold pledgelaw18_sameRows.l1
      simp only [dec_t (show (i : Int) < ((rowsM zF m).length : Int) by omega), cond_true]
      rw [nthK_get hx, fget_val]
      simp only [Option.bind_some]
      rw [nthK_get r1, nthK_get hx, nthK_get hx, eqK_refl, hasM_val, dec_t r2, r3, eqF_refl, succ_i64 (by omega)]
      rfl) (fun _ _ => by
      unfold pledgelaw18_sameRows.l1
      simp only [dec_f (show ¬ ((rowsM zF m).length : Int) < ((rowsM zF m).length : Int) by omega), cond_false])
    rw [show (((0 : Nat) : Int)) = 0 from rfl, walk_id] at this
    exact (bind_of (f := _) this).trans rfl
  exact (bind_of (f := _) hs).trans rfl

/-! ### Grants and tries -/
def grantM (m : FM) (o : OpE) : Int × FM :=
  if o.1 ∈ keysM m then (if (grantF (gA zF m o.1) o.2.1).2 = 0 then (0, pA m o.1 (grantF (gA zF m o.1) o.2.1).1) else ((grantF (gA zF m o.1) o.2.1).2, m)) else (10, m)
theorem grantM_ok {m : FM} {n : Nat} (h : FOk m n) (o : OpE) : FOk (grantM m o).2 n := by
  unfold grantM
  split
  · split
    · exact h.over (by assumption) (grantF_fi (getM_fi h.fi _) _)
    · exact h
  · exact h
def tryM : List OpE → FM → Int
  | [], _ => 0
  | o :: r, m => if (grantM m o).1 = 0 then tryM r (grantM m o).2 else (grantM m o).1
theorem walk_try {X : Type} (d : X) (g : Int → X) : ∀ (l : List OpE) (i : Nat) (m : FM), walkL (A := FM) (fun _ o m => if (grantM m o).1 = 0 then .inl (grantM m o).2 else .inr (g (grantM m o).1)) (fun _ => d) i l m = if tryM l m = 0 then d else g (tryM l m)
  | [], _, _ => rfl
  | o :: l, i, m => by
    rw [walkL, tryM]
    by_cases h : (grantM m o).1 = 0
    · rw [if_pos h, if_pos h]
      exact walk_try d g l (i + 1) _
    · rw [if_neg h, if_neg h, if_neg h]
theorem fcopy_val (m : FM) : fund_Fund_Copy () ((), ()) ((), ()) m = some ((), (((), ()), (((), ()), (m, (((), ()), (((), ()), (m, ()))))))) := rfl
end Go.Proofs.Pure

/- Moves of a field. -/
namespace Go.Proofs.Pure
open Go.Proofs.D Go.Proofs.F

theorem twoBits {a b c d : Int} (ha : I64 a) (hb : I64 b) (hc : I64 c) (hd : I64 d) :
    decide (bitsAnd .i64 (bitsXor .i64 a b) (bitsXor .i64 c d) < 0) = ((decide (a < 0) ^^ decide (b < 0)) && (decide (c < 0) ^^ decide (d < 0))) := by
  have e : ∀ b : BitVec 64, (BitVec.ofInt 64 b.toInt) = b := fun b => BitVec.ofInt_toInt
  have hb' : bitsAnd .i64 (bitsXor .i64 a b) (bitsXor .i64 c d) = ((BitVec.ofInt 64 a ^^^ BitVec.ofInt 64 b) &&& (BitVec.ofInt 64 c ^^^ BitVec.ofInt 64 d)).toInt := by
    unfold bitsAnd bitsXor
    show IntKind.i64.wrap (((BitVec.ofInt 64 (IntKind.i64.wrap ((BitVec.ofInt 64 a ^^^ BitVec.ofInt 64 b).toNat : Int))) &&& (BitVec.ofInt 64 (IntKind.i64.wrap ((BitVec.ofInt 64 c ^^^ BitVec.ofInt 64 d).toNat : Int)))).toNat : Int) = _
    rw [wrap_bv, wrap_bv, wrap_bv, e, e]
  rw [hb']
  have := BitVec.msb_eq_toInt (x := (BitVec.ofInt 64 a ^^^ BitVec.ofInt 64 b) &&& (BitVec.ofInt 64 c ^^^ BitVec.ofInt 64 d))
  rw [← this, BitVec.msb_and, BitVec.msb_xor, BitVec.msb_xor, msb_ofInt ha.1 ha.2, msb_ofInt hb.1 hb.2, msb_ofInt hc.1 hc.2, msb_ofInt hd.1 hd.2]
def subF (a b : Int) : Int × Bool × Unit := if I64 (a - b) then (a - b, (true, ())) else (0, (false, ()))
theorem sub_val {a b : Int} (ha : I64 a) (hb : I64 b) : calc_Sub a b = some (subF a b) := by
  unfold calc_Sub
  have hs := wrap_range (a - b)
  obtain ⟨q, hq⟩ := wrap_mod (a - b)
  rw [twoBits ha hb ha hs]
  unfold subF
  generalize IntKind.i64.wrap (a - b) = s at *
  by_cases h : I64 (a - b)
  · rw [if_pos h]
    unfold I64 at *
    have e : s = a - b := by omega
    subst e
    by_cases h1 : a < 0 <;> by_cases h2 : b < 0 <;> by_cases h3 : a - b < 0 <;> simp [h1, h2, h3] <;> omega
  · rw [if_neg h]
    unfold I64 at *
    by_cases h1 : a < 0 <;> by_cases h2 : b < 0 <;> by_cases h3 : s < 0 <;> simp [h1, h2, h3] <;> omega
theorem subF_range (a b : Int) : I64 (subF a b).1 := by
  unfold subF
  split
  · assumption
  · unfold I64; simp

/-- What becomes of a part: it stays, or is more, or less. -/
def partF (c n d : Int) : Int × Bool × Unit := if c = 0 then (n, (true, ())) else if c = 1 then addF n d else subF n d
theorem partF_range {c n d : Int} (h : I64 n) : I64 (partF c n d).1 := by
  unfold partF
  split
  · exact h
  · split
    · exact addF_range _ _
    · exact subF_range _ _
def FI4 (f : FE) : Prop := I64 f.2.2.1 ∧ I64 f.2.2.2.1 ∧ I64 f.2.2.2.2.1 ∧ I64 f.2.2.2.2.2.1
theorem FI4.fi {f : FE} (h : FI4 f) : FI f := ⟨h.2.1, h.2.2.1⟩
theorem less_part {n d : Int} (hn : I64 n) (hd : I64 d) : field_part_less (n, (true, ())) d = some (partF (-1) n d) := by
  refine (bind_of (f := _) (sub_val hn hd)).trans ?_
  show _ = some (subF n d)
  unfold subF
  split <;> rfl
theorem still_part {n d : Int} : field_part_still (n, (true, ())) d = some (partF 0 n d) := rfl
def moveG (f : FE) (rv rb ri rs : Int × Bool × Unit) : FE × Int :=
  if (rv.2.1 && rb.2.1 && ri.2.1 && rs.2.1 && goodF (f.1, (f.2.1, (rb.1, (ri.1, (rs.1, (rv.1, ()))))))) = true then ((f.1, (f.2.1, (rb.1, (ri.1, (rs.1, (rv.1, ())))))), 0) else (f, 12)
theorem move_nest (f : FE) (rv rb ri rs : Int × Bool × Unit) : (bif !rv.2.1 then some (f, (12, ())) else bif !rb.2.1 then some (f, (12, ())) else bif !ri.2.1 then some (f, (12, ())) else bif !rs.2.1 then some (f, (12, ())) else (field_Good (f.1, (f.2.1, (rb.1, (ri.1, (rs.1, (rv.1, ()))))))).bind fun r9 => bif !r9 then some (f, (12, ())) else some ((f.1, (f.2.1, (rb.1, (ri.1, (rs.1, (rv.1, ())))))), (0, ())) : Option (FE × Int × Unit)) = some ((moveG f rv rb ri rs).1, ((moveG f rv rb ri rs).2, ())) := by
  rw [good_val]
  unfold moveG
  generalize goodF (f.1, (f.2.1, (rb.1, (ri.1, (rs.1, (rv.1, ())))))) = g
  cases rv.2.1 <;> cases rb.2.1 <;> cases ri.2.1 <;> cases rs.2.1 <;> cases g <;> rfl
def moveF (f : FE) (d cv cb cn cf : Int) : FE × Int :=
  if goodF f = false then (f, 12) else if d = 0 ∨ d = -9223372036854775808 then (f, 1) else
  moveG f (partF cv f.2.2.2.2.2.1 d) (partF cb f.2.2.1 d) (partF (if d < 0 then cf else cn) f.2.2.2.1 d) (partF (if d < 0 then cn else cf) f.2.2.2.2.1 d)
theorem moveG_fi {f : FE} {rv rb ri rs : Int × Bool × Unit} (h : FI4 f) (hv : I64 rv.1) (hb : I64 rb.1) (hi : I64 ri.1) (hs : I64 rs.1) : FI4 (moveG f rv rb ri rs).1 := by
  unfold moveG
  split
  · exact ⟨hb, hi, hs, hv⟩
  · exact h
theorem moveF_fi {f : FE} (h : FI4 f) (d cv cb cn cf : Int) : FI4 (moveF f d cv cb cn cf).1 := by
  unfold moveF
  by_cases h1 : goodF f = false
  · rw [if_pos h1]; exact h
  · rw [if_neg h1]
    by_cases h2 : d = 0 ∨ d = -9223372036854775808
    · rw [if_pos h2]; exact h
    · rw [if_neg h2]
      exact moveG_fi h (partF_range h.2.2.2) (partF_range h.1) (partF_range h.2.1) (partF_range h.2.2.1)
theorem move_head {f : FE} {d : Int} {r : Option (FE × Int × Unit)} {x : FE × Int} (h : ¬ goodF f = false → ¬ (d = 0 ∨ d = -9223372036854775808) → r = some (x.1, (x.2, ()))) :
    ((field_wrong f d).bind fun r4 => bif (r4 : Int) != 0 then some (f, (r4, ())) else r) = some ((if goodF f = false then (f, 12) else if d = 0 ∨ d = -9223372036854775808 then (f, 1) else x).1, ((if goodF f = false then (f, 12) else if d = 0 ∨ d = -9223372036854775808 then (f, 1) else x).2, ())) := by
  rw [wrong_val]
  by_cases hg : goodF f = false
  · simp [hg]
  · by_cases h0 : d = 0 ∨ d = -9223372036854775808
    · simp [hg, h0]
    · simp only [if_neg hg, if_neg h0, Option.bind_some, bne_self_eq_false, cond_false]
      exact h hg h0
theorem moveF_undo (f : FE) (d : Int) (h : FI4 f) (hd : I64 d) (R : Option (FE × Int × Unit))
    (hR : R = (field_wrong f d).bind fun r4 => bif (r4 : Int) != 0 then some (f, (r4, ())) else bif decide (d < 0) then (field_part_less (f.2.2.2.2.2.1, (true, ())) d).bind fun r5 => (field_part_still (f.2.2.1, (true, ())) d).bind fun r6 => (field_part_less (f.2.2.2.1, (true, ())) d).bind fun r7 => (field_part_still (f.2.2.2.2.1, (true, ())) d).bind fun r8 => bif !r5.2.1 then some (f, (12, ())) else bif !r6.2.1 then some (f, (12, ())) else bif !r7.2.1 then some (f, (12, ())) else bif !r8.2.1 then some (f, (12, ())) else (field_Good (f.1, (f.2.1, (r6.1, (r7.1, (r8.1, (r5.1, ()))))))).bind fun r9 => bif !r9 then some (f, (12, ())) else some ((f.1, (f.2.1, (r6.1, (r7.1, (r8.1, (r5.1, ())))))), (0, ())) else (field_part_less (f.2.2.2.2.2.1, (true, ())) d).bind fun r10 => (field_part_still (f.2.2.1, (true, ())) d).bind fun r11 => (field_part_still (f.2.2.2.1, (true, ())) d).bind fun r12 => (field_part_less (f.2.2.2.2.1, (true, ())) d).bind fun r13 => bif !r10.2.1 then some (f, (12, ())) else bif !r11.2.1 then some (f, (12, ())) else bif !r12.2.1 then some (f, (12, ())) else bif !r13.2.1 then some (f, (12, ())) else (field_Good (f.1, (f.2.1, (r11.1, (r12.1, (r13.1, (r10.1, ()))))))).bind fun r14 => bif !r14 then some (f, (12, ())) else some ((f.1, (f.2.1, (r11.1, (r12.1, (r13.1, (r10.1, ())))))), (0, ()))) :
    R = some ((moveF f d (-1) 0 0 (-1)).1, ((moveF f d (-1) 0 0 (-1)).2, ())) := by
  rw [hR]
  unfold moveF
  refine move_head fun hg h0 => ?_
  by_cases hn : d < 0
  · rw [dec_t hn]
    simp only [cond_true, if_pos hn]
    rw [less_part h.2.2.2 hd, less_part h.2.1 hd, still_part, still_part]
    simp only [Option.bind_some]
    exact move_nest f _ _ _ _
  · rw [dec_f hn]
    simp only [cond_false, if_neg hn]
    rw [less_part h.2.2.2 hd, less_part h.2.2.1 hd, still_part, still_part]
    simp only [Option.bind_some]
    exact move_nest f _ _ _ _
end Go.Proofs.Pure

/- Of any declarations, whatever is called, all fields, and each error, are the document's. -/
namespace Go.Proofs.Pure
open Go.Proofs.D Go.Proofs.F

theorem works18 : pledgelaw18_works = some true := by kernel_rfl
def cut (n : Int) {α : Type} (x : List α) : List α := (x.take (if n < (x.length : Int) then n else (x.length : Int) : Int).toNat).drop 0
theorem cut_len {n : Int} (hn : 0 ≤ n) {α : Type} (x : List α) : ((cut n x).length : Int) ≤ n := by
  unfold cut
  simp only [List.drop_zero, List.length_take]
  split <;> omega
theorem cut_mem {n : Int} {α : Type} {x : List α} {y : α} (h : y ∈ cut n x) : y ∈ x := List.mem_of_mem_take (List.mem_of_mem_drop h)
theorem cut_chk {n : Int} (hn : 0 ≤ n) {α : Type} (x : List α) : (decide (0 ≤ (if n < (x.length : Int) then n else (x.length : Int))) && decide ((if n < (x.length : Int) then n else (x.length : Int)) ≤ (x.length : Int))) = true := by
  simp only [Bool.and_eq_true, decide_eq_true_eq]
  split <;> omega

/-! ### Moves -/
theorem more_part {n d : Int} (hn : I64 n) (hd : I64 d) : field_part_more (n, (true, ())) d = some (partF 1 n d) := by
  refine (bind_of (f := _) (add_val hn hd)).trans ?_
  show _ = some (addF n d)
  unfold addF
  split <;> rfl
abbrev PartFn := Int × Bool × Unit → Int → Option (Int × Bool × Unit)
def mvG (pv pb pn pf : PartFn) (f : FE) (d : Int) : Option (FE × Int × Unit) :=
  (field_wrong f d).bind fun r4 => bif (r4 : Int) != 0 then some (f, (r4, ())) else bif decide (d < 0) then (pv (f.2.2.2.2.2.1, (true, ())) d).bind fun r5 => (pb (f.2.2.1, (true, ())) d).bind fun r6 => (pf (f.2.2.2.1, (true, ())) d).bind fun r7 => (pn (f.2.2.2.2.1, (true, ())) d).bind fun r8 => bif !r5.2.1 then some (f, (12, ())) else bif !r6.2.1 then some (f, (12, ())) else bif !r7.2.1 then some (f, (12, ())) else bif !r8.2.1 then some (f, (12, ())) else (field_Good (f.1, (f.2.1, (r6.1, (r7.1, (r8.1, (r5.1, ()))))))).bind fun r9 => bif !r9 then some (f, (12, ())) else some ((f.1, (f.2.1, (r6.1, (r7.1, (r8.1, (r5.1, ())))))), (0, ())) else (pv (f.2.2.2.2.2.1, (true, ())) d).bind fun r10 => (pb (f.2.2.1, (true, ())) d).bind fun r11 => (pn (f.2.2.2.1, (true, ())) d).bind fun r12 => (pf (f.2.2.2.2.1, (true, ())) d).bind fun r13 => bif !r10.2.1 then some (f, (12, ())) else bif !r11.2.1 then some (f, (12, ())) else bif !r12.2.1 then some (f, (12, ())) else bif !r13.2.1 then some (f, (12, ())) else (field_Good (f.1, (f.2.1, (r11.1, (r12.1, (r13.1, (r10.1, ()))))))).bind fun r14 => bif !r14 then some (f, (12, ())) else some ((f.1, (f.2.1, (r11.1, (r12.1, (r13.1, (r10.1, ())))))), (0, ()))
theorem mvG_val {pv pb pn pf : PartFn} {f : FE} {d cv cb cn cf : Int} (h : FI4 f) (hv : ∀ n, I64 n → pv (n, (true, ())) d = some (partF cv n d)) (hb : ∀ n, I64 n → pb (n, (true, ())) d = some (partF cb n d)) (hn' : ∀ n, I64 n → pn (n, (true, ())) d = some (partF cn n d)) (hf : ∀ n, I64 n → pf (n, (true, ())) d = some (partF cf n d)) :
    mvG pv pb pn pf f d = some ((moveF f d cv cb cn cf).1, ((moveF f d cv cb cn cf).2, ())) := by
  unfold mvG moveF
  refine move_head fun hg h0 => ?_
  by_cases hn : d < 0
  · rw [dec_t hn]
    simp only [cond_true, if_pos hn]
    rw [hv _ h.2.2.2, hb _ h.1, hf _ h.2.1, hn' _ h.2.2.1]
    simp only [Option.bind_some]
    exact move_nest f _ _ _ _
  · rw [dec_f hn]
    simp only [cond_false, if_neg hn]
    rw [hv _ h.2.2.2, hb _ h.1, hn' _ h.2.1, hf _ h.2.2.1]
    simp only [Option.bind_some]
    exact move_nest f _ _ _ _
def callF (c : Int) (f : FE) (d : Int) : FE × Int :=
  if c = 1 then moveF f d (-1) 0 0 (-1) else if c = 2 then moveF f d 0 1 1 0 else if c = 3 then moveF f d (-1) 0 0 0 else if c = 4 then moveF f d 1 0 0 0 else if c = 5 then moveF f d 0 0 0 (-1) else grantF f d
theorem grantF_fi4 {f : FE} (h : FI4 f) (d : Int) : FI4 (grantF f d).1 := by
  have h2 := grantF_fi h.fi d
  refine ⟨?_, h2.1, h2.2, ?_⟩
  · unfold grantF
    by_cases h1 : goodF f = false
    · rw [if_pos h1]; exact h.1
    · rw [if_neg h1]
      by_cases h2 : d = 0 ∨ d = -9223372036854775808
      · rw [if_pos h2]; exact h.1
      · rw [if_neg h2]
        generalize addF (if d < 0 then f.2.2.2.1 else f.2.2.2.2.1) d = n
        by_cases h3 : n.2.1 = false
        · rw [if_pos h3]; exact h.1
        · rw [if_neg h3]
          by_cases h4 : n.1 < f.1 ∨ n.1 > f.2.1
          · rw [if_pos h4]; exact h.1
          · rw [if_neg h4]; exact h.1
  · unfold grantF
    by_cases h1 : goodF f = false
    · rw [if_pos h1]; exact h.2.2.2
    · rw [if_neg h1]
      by_cases h2 : d = 0 ∨ d = -9223372036854775808
      · rw [if_pos h2]; exact h.2.2.2
      · rw [if_neg h2]
        generalize addF (if d < 0 then f.2.2.2.1 else f.2.2.2.2.1) d = n
        by_cases h3 : n.2.1 = false
        · rw [if_pos h3]; exact h.2.2.2
        · rw [if_neg h3]
          by_cases h4 : n.1 < f.1 ∨ n.1 > f.2.1
          · rw [if_pos h4]; exact h.2.2.2
          · rw [if_neg h4]; exact wrap_range _
theorem callF_fi {f : FE} (h : FI4 f) (c d : Int) : FI4 (callF c f d).1 := by
  unfold callF
  repeat' split
  all_goals first | exact moveF_fi h _ _ _ _ _ | exact grantF_fi4 h _

/-! ### The document's moves -/
theorem refsub_val {a b : Int} (ha : I64 a) (hb : I64 b) : pledgeref01_Sub a b = some (subF a b) := by
  have hs : ∀ l : List Int, l.length < 1000 → (∀ x ∈ l, I64 x) → total l = a - b → (pledgeref01_Sum l).bind (fun r => some (r.1, (r.2.1, ()))) = some (subF a b) := fun l hl hx ht => by
    rw [refsum_all l (by omega) hx]
    simp only [Option.bind_some]
    unfold sumOf subF
    rw [ht]
    have hf : fitsI (a - b) = decide (I64 (a - b)) := by
      rw [Bool.eq_iff_iff, decide_eq_true_iff]
      unfold fitsI I64
      simp only [Bool.and_eq_true, decide_eq_true_eq]
    rw [hf]
    by_cases h : I64 (a - b)
    · rw [if_pos (by simpa using h), if_pos h]
    · rw [if_neg (by simpa using h), if_neg h]
  unfold pledgeref01_Sub
  unfold I64 at ha hb
  by_cases h : b < -9223372036854775807
  · rw [dec_t h, cond_true]
    refine hs [a, 9223372036854775807, 1] (by simp) (fun x hx => ?_) (by simp only [total]; omega)
    simp only [List.mem_cons, List.not_mem_nil, or_false] at hx
    rcases hx with q | q | q <;> subst q <;> unfold I64 <;> omega
  · rw [dec_f h, cond_false, wrap_i64 (by omega) (by omega)]
    refine hs [a, 0 - b] (by simp) (fun x hx => ?_) (by simp only [total]; omega)
    simp only [List.mem_cons, List.not_mem_nil, or_false] at hx
    rcases hx with q | q <;> subst q <;> unfold I64 <;> omega
theorem times_val {n d c : Int} (hn : I64 n) (hd : I64 d) (hc : c = -1 ∨ c = 0 ∨ c = 1) : pledgeref17_times n d c = some (partF c n d) := by
  unfold pledgeref17_times partF
  rcases hc with e | e | e <;> subst e
  · refine (bind_of (f := _) (refsub_val hn hd)).trans rfl
  · rfl
  · refine (bind_of (f := _) (refadd_val hn hd)).trans rfl
theorem do17_val {f : FE} {d cv cb cn cf : Int} (h : FI4 f) (hd : I64 d) (hv : cv = -1 ∨ cv = 0 ∨ cv = 1) (hb : cb = -1 ∨ cb = 0 ∨ cb = 1) (hn' : cn = -1 ∨ cn = 0 ∨ cn = 1) (hf : cf = -1 ∨ cf = 0 ∨ cf = 1) :
    pledgeref17_Do f d (cv, (cb, (cn, (cf, ())))) = some ((moveF f d cv cb cn cf).1, ((moveF f d cv cb cn cf).2, ())) := by
  unfold pledgeref17_Do moveF
  rw [first_val f d hd]
  by_cases hg : goodF f = false
  · simp [hg]
  · by_cases h0 : d = 0 ∨ d = -9223372036854775808
    · simp [hg, h0]
    · simp only [if_neg hg, if_neg h0, Option.bind_some, bne_self_eq_false, cond_false]
      by_cases hn : d < 0
      · rw [dec_t hn]
        simp only [cond_true, if_pos hn, Option.bind_some]
        rw [times_val h.2.2.2 hd hv, times_val h.1 hd hb, times_val h.2.1 hd hf, times_val h.2.2.1 hd hn']
        simp only [Option.bind_some, good17_val]
        unfold moveG
        generalize goodF _ = g
        cases (partF cv f.2.2.2.2.2.1 d).2.1 <;> cases (partF cb f.2.2.1 d).2.1 <;> cases (partF cf f.2.2.2.1 d).2.1 <;> cases (partF cn f.2.2.2.2.1 d).2.1 <;> cases g <;> rfl
      · rw [dec_f hn]
        simp only [cond_false, if_neg hn, Option.bind_some]
        rw [times_val h.2.2.2 hd hv, times_val h.1 hd hb, times_val h.2.1 hd hn', times_val h.2.2.1 hd hf]
        simp only [Option.bind_some, good17_val]
        unfold moveG
        generalize goodF _ = g
        cases (partF cv f.2.2.2.2.2.1 d).2.1 <;> cases (partF cb f.2.2.1 d).2.1 <;> cases (partF cn f.2.2.2.1 d).2.1 <;> cases (partF cf f.2.2.2.2.1 d).2.1 <;> cases g <;> rfl

/-! ### Calls of a fund -/
structure FOk4 (m : FM) (n : Nat) : Prop where
  nd : (keysM m).Nodup
  len : m.length ≤ n
  fi : ∀ p ∈ m, FI4 p.2
theorem zero_fi4 : FI4 zF := by
  unfold FI4 I64 zF
  simp
theorem getM_fi4 {m : FM} (h : ∀ p ∈ m, FI4 p.2) (k : KE) : FI4 (gA zF m k) := by
  induction m with
  | nil => exact zero_fi4
  | cons e r ih =>
    have : gA zF (e :: r) k = if k = e.1 then e.2 else gA zF r k := rfl
    rw [this]
    split
    · exact h e List.mem_cons_self
    · exact ih fun p hp => h p (List.mem_cons_of_mem _ hp)
theorem newM_ok4 {l : List DE} (hd : ∀ d ∈ l, I64 d.2.2.1) : FOk4 (newM l) l.length := by
  have h := newM_ok hd
  refine ⟨h.nd, h.len, ?_⟩
  have : ∀ (l : List DE) (m : FM), (∀ d ∈ l, I64 d.2.2.1) → (∀ p ∈ m, FI4 p.2) → ∀ p ∈ l.foldl newG m, FI4 p.2 := by
    intro l
    induction l with
    | nil => intro m _ h; exact h
    | cons d r ih =>
      intro m hd h
      rw [List.foldl_cons]
      refine ih (newG m d) (fun x hx => hd x (List.mem_cons_of_mem _ hx)) fun p hp => ?_
      unfold newG at hp
      split at hp
      · rcases mem_putM hp with q | q
        · have hi := hd d List.mem_cons_self
          rw [q]
          unfold newF
          split
          · exact ⟨hi, hi, hi, hi⟩
          · exact zero_fi4
        · exact h p q
      · exact h p hp
  exact this l [] hd fun p hp => by cases hp
def doM (F : FE → Int → FE × Int) (m : FM) (o : OpE) : Int × FM :=
  if o.1 ∈ keysM m then (if (F (gA zF m o.1) o.2.1).2 = 0 then (0, pA m o.1 (F (gA zF m o.1) o.2.1).1) else ((F (gA zF m o.1) o.2.1).2, m)) else (10, m)
theorem doM_ok {F : FE → Int → FE × Int} (hF : ∀ f d, FI4 f → FI4 (F f d).1) {m : FM} {n : Nat} (h : FOk4 m n) (o : OpE) : FOk4 (doM F m o).2 n := by
  unfold doM
  split
  · rename_i hk
    split
    · refine ⟨nodup_put h.nd _ _, by have := h.len; rw [← len_keys, keys_put, if_pos hk, len_keys]; exact this, fun p hp => ?_⟩
      rcases mem_putM hp with q | q
      · rw [q]; exact hF _ _ (getM_fi4 h.fi _)
      · exact h.fi p q
    · exact h
  · exact h
abbrev ByFn := FE → Unit → Unit → Unit → Int → Option ((FE × Int × Unit) × Unit × Int × Unit)
def chG (by_ : ByFn) (k : KE) (d : Int) (m : FM) : Option (Int × (Unit × Unit) × Unit × Int × (Unit × Unit) × FM × Unit) :=
  (fund_Fund_Get () k ((), ()) ((), ()) m).bind fun r9 => bif !r9.1.2.1 then some (10, (((), r9.2.1.2), ((), (d, (((), r9.2.2.1.2), (r9.2.2.2.1, ())))))) else (by_ r9.1.1 () () () d).bind fun r10 => bif (r10.1.2.1 : Int) == 0 then (table_Table_api_Field_Put () k r10.1.1 ((), r9.2.2.1.2) r9.2.2.2.1).bind fun r11 => some (r10.1.2.1, (((), r9.2.1.2), ((), (r10.2.2.1, (((), r11.2.1.2), (r11.2.2.1, ())))))) else some (r10.1.2.1, (((), r9.2.1.2), ((), (r10.2.2.1, (((), r9.2.2.1.2), (r9.2.2.2.1, ()))))))
theorem chG_val {by_ : ByFn} {F : FE → Int → FE × Int} {m : FM} (o : OpE) (h : by_ (gA zF m o.1) () () () o.2.1 = some (((F (gA zF m o.1) o.2.1).1, ((F (gA zF m o.1) o.2.1).2, ())), ((), (o.2.1, ())))) :
    chG by_ o.1 o.2.1 m = some ((doM F m o).1, (((), ()), ((), (o.2.1, (((), ()), ((doM F m o).2, ())))))) := by
  unfold chG
  rw [fget_val, hasM_val]
  simp only [Option.bind_some]
  unfold doM
  by_cases hk : o.1 ∈ keysM m
  · rw [dec_t hk, if_pos hk]
    simp only [Bool.not_true, cond_false]
    rw [h]
    simp only [Option.bind_some]
    by_cases he : (F (gA zF m o.1) o.2.1).2 = 0
    · rw [if_pos he, show (((F (gA zF m o.1) o.2.1).2 : Int) == 0) = true by simpa using he, he, fput_val]; rfl
    · rw [if_neg he, show (((F (gA zF m o.1) o.2.1).2 : Int) == 0) = false by simpa using he]; rfl
  · rw [dec_f hk, if_neg hk]; rfl
theorem fUndo_val {f : FE} {d : Int} (h : FI4 f) (hd : I64 d) : field_Undo f d = some ((moveF f d (-1) 0 0 (-1)).1, ((moveF f d (-1) 0 0 (-1)).2, ())) :=
  (bind_of (f := _) (mvG_val (pv := field_part_less) (pb := field_part_still) (pn := field_part_still) (pf := field_part_less) h (fun n hn => less_part hn hd) (fun n _ => still_part) (fun n _ => still_part) (fun n hn => less_part hn hd) : field_move f d () () () () = _)).trans rfl
theorem dUndo_val {m : FM} {n : Nat} (h : FOk4 m n) (o : OpE) (ho : I64 o.2.1) : fund_Fund_Undo () o ((), ()) ((), ()) m = some ((doM (fun f d => moveF f d (-1) 0 0 (-1)) m o).1, (((), ()), (((), ()), ((doM (fun f d => moveF f d (-1) 0 0 (-1)) m o).2, ())))) :=
  (bind_of (f := _) (show fund_by () o.2.1 = some (((), ((), ())), ((), (o.2.1, ()))) from rfl)).trans ((bind_of (f := _) (chG_val (by_ := fund_by_1) (F := fun f d => moveF f d (-1) 0 0 (-1)) o ((bind_of (f := _) (fUndo_val (getM_fi4 h.fi o.1) ho)).trans rfl) : fund_Fund_change () o.1 ((), ((), ())) ((), ()) () o.2.1 ((), ()) m = _)).trans rfl)
theorem fSettle_val {f : FE} {d : Int} (h : FI4 f) (hd : I64 d) : field_Settle f d = some ((moveF f d 0 1 1 0).1, ((moveF f d 0 1 1 0).2, ())) :=
  (bind_of (f := _) (mvG_val (pv := field_part_still) (pb := field_part_more) (pn := field_part_more) (pf := field_part_still) h (fun n _ => still_part) (fun n hn => more_part hn hd) (fun n hn => more_part hn hd) (fun n _ => still_part) : field_move_v2 f d () () () () = _)).trans rfl
theorem dSettle_val {m : FM} {n : Nat} (h : FOk4 m n) (o : OpE) (ho : I64 o.2.1) : fund_Fund_Settle () o ((), ()) ((), ()) m = some ((doM (fun f d => moveF f d 0 1 1 0) m o).1, (((), ()), (((), ()), ((doM (fun f d => moveF f d 0 1 1 0) m o).2, ())))) :=
  (bind_of (f := _) (show fund_by_v2 () o.2.1 = some (((), ((), ())), ((), (o.2.1, ()))) from rfl)).trans ((bind_of (f := _) (chG_val (by_ := fund_by_1_v2) (F := fun f d => moveF f d 0 1 1 0) o ((bind_of (f := _) (fSettle_val (getM_fi4 h.fi o.1) ho)).trans rfl) : fund_Fund_change_v2 () o.1 ((), ((), ())) ((), ()) () o.2.1 ((), ()) m = _)).trans rfl)
theorem fBack_val {f : FE} {d : Int} (h : FI4 f) (hd : I64 d) : field_Back f d = some ((moveF f d (-1) 0 0 0).1, ((moveF f d (-1) 0 0 0).2, ())) :=
  (bind_of (f := _) (mvG_val (pv := field_part_less) (pb := field_part_still) (pn := field_part_still) (pf := field_part_still) h (fun n hn => less_part hn hd) (fun n _ => still_part) (fun n _ => still_part) (fun n _ => still_part) : field_move_v3 f d () () () () = _)).trans rfl
theorem dBack_val {m : FM} {n : Nat} (h : FOk4 m n) (o : OpE) (ho : I64 o.2.1) : fund_Fund_Back () o ((), ()) ((), ()) m = some ((doM (fun f d => moveF f d (-1) 0 0 0) m o).1, (((), ()), (((), ()), ((doM (fun f d => moveF f d (-1) 0 0 0) m o).2, ())))) :=
  (bind_of (f := _) (show fund_by_v3 () o.2.1 = some (((), ((), ())), ((), (o.2.1, ()))) from rfl)).trans ((bind_of (f := _) (chG_val (by_ := fund_by_1_v3) (F := fun f d => moveF f d (-1) 0 0 0) o ((bind_of (f := _) (fBack_val (getM_fi4 h.fi o.1) ho)).trans rfl) : fund_Fund_change_v3 () o.1 ((), ((), ())) ((), ()) () o.2.1 ((), ()) m = _)).trans rfl)
theorem fForth_val {f : FE} {d : Int} (h : FI4 f) (hd : I64 d) : field_Forth f d = some ((moveF f d 1 0 0 0).1, ((moveF f d 1 0 0 0).2, ())) :=
  (bind_of (f := _) (mvG_val (pv := field_part_more) (pb := field_part_still) (pn := field_part_still) (pf := field_part_still) h (fun n hn => more_part hn hd) (fun n _ => still_part) (fun n _ => still_part) (fun n _ => still_part) : field_move_v4 f d () () () () = _)).trans rfl
theorem dForth_val {m : FM} {n : Nat} (h : FOk4 m n) (o : OpE) (ho : I64 o.2.1) : fund_Fund_Forth () o ((), ()) ((), ()) m = some ((doM (fun f d => moveF f d 1 0 0 0) m o).1, (((), ()), (((), ()), ((doM (fun f d => moveF f d 1 0 0 0) m o).2, ())))) :=
  (bind_of (f := _) (show fund_by_v4 () o.2.1 = some (((), ((), ())), ((), (o.2.1, ()))) from rfl)).trans ((bind_of (f := _) (chG_val (by_ := fund_by_1_v4) (F := fun f d => moveF f d 1 0 0 0) o ((bind_of (f := _) (fForth_val (getM_fi4 h.fi o.1) ho)).trans rfl) : fund_Fund_change_v4 () o.1 ((), ((), ())) ((), ()) () o.2.1 ((), ()) m = _)).trans rfl)
theorem fDrop_val {f : FE} {d : Int} (h : FI4 f) (hd : I64 d) : field_Drop f d = some ((moveF f d 0 0 0 (-1)).1, ((moveF f d 0 0 0 (-1)).2, ())) :=
  (bind_of (f := _) (mvG_val (pv := field_part_still) (pb := field_part_still) (pn := field_part_still) (pf := field_part_less) h (fun n _ => still_part) (fun n _ => still_part) (fun n _ => still_part) (fun n hn => less_part hn hd) : field_move_v5 f d () () () () = _)).trans rfl
theorem dDrop_val {m : FM} {n : Nat} (h : FOk4 m n) (o : OpE) (ho : I64 o.2.1) : fund_Fund_Drop () o ((), ()) ((), ()) m = some ((doM (fun f d => moveF f d 0 0 0 (-1)) m o).1, (((), ()), (((), ()), ((doM (fun f d => moveF f d 0 0 0 (-1)) m o).2, ())))) :=
  (bind_of (f := _) (show fund_by_v5 () o.2.1 = some (((), ((), ())), ((), (o.2.1, ()))) from rfl)).trans ((bind_of (f := _) (chG_val (by_ := fund_by_1_v5) (F := fun f d => moveF f d 0 0 0 (-1)) o ((bind_of (f := _) (fDrop_val (getM_fi4 h.fi o.1) ho)).trans rfl) : fund_Fund_change_v5 () o.1 ((), ((), ())) ((), ()) () o.2.1 ((), ()) m = _)).trans rfl)
theorem dGrant_val {m : FM} {n : Nat} (h : FOk4 m n) (o : OpE) (ho : I64 o.2.1) : fund_Fund_Grant () o ((), ()) ((), ()) m = some ((doM grantF m o).1, (((), ()), (((), ()), ((doM grantF m o).2, ())))) :=
  (bind_of (f := _) (show fund_by_v6 () o.2.1 = some (((), ((), ())), ((), (o.2.1, ()))) from rfl)).trans ((bind_of (f := _) (chG_val (by_ := fund_by_1_v6) (F := grantF) o ((bind_of (f := _) (grant_val _ _ (getM_fi4 h.fi o.1).fi ho)).trans rfl) : fund_Fund_change_v6 () o.1 ((), ((), ())) ((), ()) () o.2.1 ((), ()) m = _)).trans rfl)
theorem do_val {m : FM} {n : Nat} (h : FOk4 m n) (a : Int × OpE × Unit) (ha : 0 ≤ a.1 ∧ a.1 < 256) (ho : I64 a.2.1.2.1) : pledgelaw18_do () a ((), ()) ((), ()) m = some ((doM (callF (Int.tmod a.1 6)) m a.2.1).1, (((), ()), (((), ()), ((doM (callF (Int.tmod a.1 6)) m a.2.1).2, ())))) := by
  unfold pledgelaw18_do callF
  generalize Int.tmod a.1 6 = c
  by_cases h1 : c = 1
  · subst h1
    exact (bind_of (f := _) (dUndo_val h a.2.1 ho)).trans rfl
  · simp only [show ((c : Int) == 1) = false by simpa using h1, if_neg h1, cond_false]
    by_cases h2 : c = 2
    · subst h2
      exact (bind_of (f := _) (dSettle_val h a.2.1 ho)).trans rfl
    · simp only [show ((c : Int) == 2) = false by simpa using h2, if_neg h2, cond_false]
      by_cases h3 : c = 3
      · subst h3
        exact (bind_of (f := _) (dBack_val h a.2.1 ho)).trans rfl
      · simp only [show ((c : Int) == 3) = false by simpa using h3, if_neg h3, cond_false]
        by_cases h4 : c = 4
        · subst h4
          exact (bind_of (f := _) (dForth_val h a.2.1 ho)).trans rfl
        · simp only [show ((c : Int) == 4) = false by simpa using h4, if_neg h4, cond_false]
          by_cases h5 : c = 5
          · subst h5
            exact (bind_of (f := _) (dDrop_val h a.2.1 ho)).trans rfl
          · simp only [show ((c : Int) == 5) = false by simpa using h5, if_neg h5, cond_false]
            exact (bind_of (f := _) (dGrant_val h a.2.1 ho)).trans rfl
theorem moved_val (c : Int) : pledgeref17_Moved c = some (if c = 1 then ((-1), (0, (0, ((-1), ())))) else if c = 2 then (0, (1, (1, (0, ())))) else if c = 3 then ((-1), (0, (0, (0, ())))) else if c = 4 then (1, (0, (0, (0, ())))) else (0, (0, (0, ((-1), ()))))) := by
  unfold pledgeref17_Moved
  by_cases h1 : c = 1
  · subst h1; rfl
  · rw [show ((c : Int) == 1) = false by simpa using h1, if_neg h1]
    by_cases h2 : c = 2
    · subst h2; rfl
    · rw [show ((c : Int) == 2) = false by simpa using h2, if_neg h2]
      by_cases h3 : c = 3
      · subst h3; rfl
      · rw [show ((c : Int) == 3) = false by simpa using h3, if_neg h3]
        by_cases h4 : c = 4
        · subst h4; rfl
        · rw [show ((c : Int) == 4) = false by simpa using h4, if_neg h4]; rfl
theorem refdo_val {m : FM} {n : Nat} (h : FOk4 m n) (hn : n ≤ 100000) (c : Int) (hc : 0 ≤ c ∧ c < 6) (o : OpE) (ho : I64 o.2.1) : pledgeref18_Do (rowsM zF m) c o = some (rowsM zF (doM (callF c) m o).2, ((doM (callF c) m o).1, ())) := by
  refine (bind_of (f := _) (get_rows m o.1 (by have := h.len; omega))).trans ?_
  simp only
  unfold doM
  by_cases hk : o.1 ∈ keysM m
  · rw [dec_t hk, if_pos hk]
    simp only [Bool.not_true, cond_false]
    have hf := getM_fi4 h.fi o.1
    rw [grant17_val _ _ hf.fi ho]
    simp only [Option.bind_some]
    by_cases hp : c > 0
    · rw [dec_t hp]
      simp only [cond_true]
      have hd : (pledgeref17_Moved c).bind (fun r8 => pledgeref17_Do (gA zF m o.1) o.2.1 r8) = some ((callF c (gA zF m o.1) o.2.1).1, ((callF c (gA zF m o.1) o.2.1).2, ())) := by
        rw [moved_val]
        simp only [Option.bind_some]
        unfold callF
        by_cases h1 : c = 1
        · rw [if_pos h1, if_pos h1]; exact do17_val hf ho (by omega) (by omega) (by omega) (by omega)
        · rw [if_neg h1, if_neg h1]
          by_cases h2 : c = 2
          · rw [if_pos h2, if_pos h2]; exact do17_val hf ho (by omega) (by omega) (by omega) (by omega)
          · rw [if_neg h2, if_neg h2]
            by_cases h3 : c = 3
            · rw [if_pos h3, if_pos h3]; exact do17_val hf ho (by omega) (by omega) (by omega) (by omega)
            · rw [if_neg h3, if_neg h3]
              by_cases h4 : c = 4
              · rw [if_pos h4, if_pos h4]; exact do17_val hf ho (by omega) (by omega) (by omega) (by omega)
              · rw [if_neg h4, if_neg h4, if_pos (show c = 5 by omega)]; exact do17_val hf ho (by omega) (by omega) (by omega) (by omega)
      generalize callF c (gA zF m o.1) o.2.1 = r at *
      obtain ⟨mv, hm1, hm2⟩ := Option.bind_eq_some_iff.1 hd
      rw [hm1]
      simp only [Option.bind_some]
      rw [hm2]
      simp only [Option.bind_some]
      rw [put18_val _ _ (by rw [rows_len]; have := h.len; omega) (rows_sorted h.nd)]
      by_cases he : r.2 = 0
      · rw [if_pos he, show ((r.2 : Int) != 0) = false by simpa using he, rows_put h.nd]; rfl
      · rw [if_neg he, show ((r.2 : Int) != 0) = true by simpa using he]; rfl
    · rw [dec_f hp]
      simp only [cond_false]
      have hc0 : callF c (gA zF m o.1) o.2.1 = grantF (gA zF m o.1) o.2.1 := by
        unfold callF
        rw [if_neg (by omega), if_neg (by omega), if_neg (by omega), if_neg (by omega), if_neg (by omega)]
      rw [hc0, put18_val _ _ (by rw [rows_len]; have := h.len; omega) (rows_sorted h.nd)]
      by_cases he : (grantF (gA zF m o.1) o.2.1).2 = 0
      · rw [if_pos he, show (((grantF (gA zF m o.1) o.2.1).2 : Int) != 0) = false by simpa using he, rows_put h.nd]; rfl
      · rw [if_neg he, show (((grantF (gA zF m o.1) o.2.1).2 : Int) != 0) = true by simpa using he]; rfl
  · rw [dec_f hk, if_neg hk]; rfl
theorem plays (xs : List DE) (ys : List (Int × OpE × Unit)) (h0 : ∀ d ∈ xs, WfE kDecl d) (h2 : ∀ a ∈ ys, (0 ≤ a.1 ∧ a.1 < 256) ∧ I64 a.2.1.2.1) : pledgelaw18_FundPlays xs ys = some true := by
  unfold pledgelaw18_FundPlays
  rw [chk_true (cut_chk (by omega) xs), chk_true (cut_chk (by omega) ys)]
  change (fund_New (cut 20 xs)).bind _ = _
  have hl := cut_len (n := 20) (by omega) xs
  have hl2 := cut_len (n := 40) (by omega) ys
  have hd : ∀ d ∈ cut 20 xs, I64 d.2.2.1 := fun d hd => wf_i64 (h0 d (cut_mem hd)).2.2.1
  have ho : ∀ a ∈ cut 40 ys, (0 ≤ a.1 ∧ a.1 < 256) ∧ I64 a.2.1.2.1 := fun o hq => h2 o (cut_mem hq)
  have hok := newM_ok4 hd
  refine (bind_of (f := _) (fundNew_val (cut 20 xs) (by omega))).trans ?_
  refine (bind_of (f := _) (refNew_val (cut 20 xs) (by omega) hd)).trans ?_
  have hcut : (ys.take (if 40 < (ys.length : Int) then 40 else (ys.length : Int) : Int).toNat).drop 0 = cut 40 ys := rfl
  simp only [hcut]
  have hn : (cut 20 xs).length ≤ 100000 := by omega
  generalize newM (cut 20 xs) = m0 at *
  generalize (cut 20 xs).length = n at *
  generalize cut 40 ys = acts at *
  refine (bind_of (f := _) (same_val m0 (by have := hok.len; omega))).trans ?_
  rw [show (((1 : Int)) == 0) = false from rfl, cond_false]
  have h1 := loop_walk (step := pledgelaw18_FundPlays.l1) acts (fun i (m : FM) => ((acts, ((), (rowsM zF m, (i : Int)))), (((), ()), (((), ()), (m, ())))))
    (fun _ a m => .inl (doM (callF (Int.tmod a.1 6)) m a.2.1).2) (fun _ => .inl ()) (fun _ m => FOk4 m n) m0 (by omega) hok (fun i a m hx hI => by
    have hi := get_lt hx
    have ha := ho a (get_mem hx)
    refine ⟨?_, fun m' e => by cases e; exact doM_ok (fun f d hf => callF_fi hf _ d) hI _⟩
    obtain ⟨k, hk⟩ := Int.eq_ofNat_of_zero_le ha.1.1
    have hc : 0 ≤ Int.tmod a.1 6 ∧ Int.tmod a.1 6 < 6 := by
      rw [hk]
      have : Int.tmod (k : Int) 6 = ((k % 6 : Nat) : Int) := rfl
      rw [this]
      omega
    unfold pledgelaw18_FundPlays.l1
    simp only [dec_t (show (i : Int) < (acts.length : Int) by omega), cond_true]
    rw [nthK_get hx, nthK_get hx, wrap_i64 (by omega) (by omega), refdo_val hI hn _ hc _ ha.2]
    simp only [Option.bind_some]
    rw [nthK_get hx, do_val hI a ha.1 ha.2]
    simp only [Option.bind_some, bne_self_eq_false, cond_false]
    rw [same_val _ (by have := (doM_ok (fun f d hf => callF_fi hf (Int.tmod a.1 6) d) hI a.2.1).len; omega)]
    simp only [Option.bind_some]
    rw [show (((1 : Int)) == 0) = false from rfl, cond_false, succ_i64 (by omega)]) (fun _ _ => by
    unfold pledgelaw18_FundPlays.l1
    simp only [dec_f (show ¬ (acts.length : Int) < (acts.length : Int) by omega), cond_false])
  rw [show (((0 : Nat) : Int)) = 0 from rfl] at h1
  have hw : ∀ (l : List (Int × OpE × Unit)) (i : Nat) (m : FM), walkL (A := FM) (X := Unit ⊕ Bool) (fun _ a m => .inl (doM (callF (Int.tmod a.1 6)) m a.2.1).2) (fun _ => .inl ()) i l m = .inl () := by
    intro l
    induction l with
    | nil => intro i m; rfl
    | cons a r ih => intro i m; rw [walkL]; exact ih (i + 1) _
  refine (bind_of (f := _) (h1.trans (congrArg some (hw acts 0 m0)))).trans ?_
  simp only
  rw [works18]; rfl
theorem FundPlays (x0 : El (.slice kDecl)) (x1 : El (.slice kAct)) (h0 : WfE (.slice kDecl) x0) (h1 : WfE (.slice kAct) x1) : pledgelaw18_FundPlays x0 x1 = some true :=
  plays x0 x1 h0.2 fun a ha => ⟨wf_u8 (h1.2 a ha).1, wf_i64 (h1.2 a ha).2.1.2.1⟩
end Go.Proofs.Pure
