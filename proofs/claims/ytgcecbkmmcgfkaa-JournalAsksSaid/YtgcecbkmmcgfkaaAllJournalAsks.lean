/- What is told of any transactions: the plain law and all that it leans on. -/
import Derived.Test.YtgcecbkmmcgfkaaPLib
import Derived.Test.YtgcecbkmmcgfkaaFnJas
set_option linter.unusedVariables false
set_option linter.unusedSimpArgs false
set_option maxRecDepth 100000

/- Transactions in the order of their numbers, and the map that has them. -/
namespace Go.Proofs.Pure
open Go.Proofs.D Go.Proofs.F

theorem walk_foldl {α A X : Type} (g : A → α → A) (fin : A → X) : ∀ (l : List α) (i : Nat) (acc : A), walkL (fun _ x a => .inl (g a x)) fin i l acc = fin (l.foldl g acc)
  | [], i, acc => rfl
  | x :: l, i, acc => by
    rw [walkL]
    exact walk_foldl g fin l (i + 1) (g acc x)
theorem eqK_iff {a b : Int} : eqE (.int .u32) a b = true ↔ a = b := by
  have : eqE (.int .u32) a b = (a == b) := rfl
  rw [this]; simp
theorem eqK_refl (a : Int) : eqE (.int .u32) a a = true := eqK_iff.2 rfl
theorem lt_asymm {a b : Int} (h : ltOf cmp1 a b = true) : ltOf cmp1 b a = false := by
  rw [lt1, decide_eq_true_eq] at h
  rw [lt1, decide_eq_false_iff_not]; omega
theorem eqK_dec (a b : Int) : eqE (.int .u32) a b = decide (a = b) := by rw [Bool.eq_iff_iff, decide_eq_true_iff]; exact eqK_iff
/-- Keys that are each there once, sorted, rise. -/
theorem sort_rises {ks : List Int} (h1 : ks.Nodup) : (ks.mergeSort (leOf cmp1)).Pairwise fun a b => ltOf cmp1 a b = true := by
  have hp := List.mergeSort_perm ks (leOf cmp1)
  have hn := hp.nodup_iff.2 h1
  have hs : (ks.mergeSort (leOf cmp1)).Pairwise fun a b => leOf cmp1 a b = true := List.pairwise_mergeSort (fun a b c q1 q2 => by
    unfold leOf at *
    simp only [Bool.not_eq_true'] at *
    exact swo1.ntrans c b a q2 q1) (fun a b => by
    unfold leOf
    cases q1 : ltOf cmp1 b a with
    | false => rfl
    | true => rw [lt_asymm q1]; rfl) _
  refine (hs.and hn).imp fun {a b} q => ?_
  obtain ⟨q1, q2⟩ := q
  unfold leOf at q1
  simp only [Bool.not_eq_true'] at q1
  cases hq : ltOf cmp1 a b with
  | true => rfl
  | false => exact absurd (tot1 a b hq q1) q2

section
variable {α : Type} {z : α}
abbrev MV (α : Type) := List (Int × α)
abbrev RV (α : Type) := List (Int × α × Unit)
def gA (z : α) : MV α → Int → α
  | [], _ => z
  | e :: r, k => if k = e.1 then e.2 else gA z r k
def hA : MV α → Int → Bool
  | [], _ => false
  | e :: r, k => decide (k = e.1) || hA r k
def pA : MV α → Int → α → MV α
  | [], k, v => [(k, v)]
  | e :: r, k, v => if k = e.1 then (k, v) :: r else e :: pA r k v
def dA : MV α → Int → MV α
  | [], _ => []
  | e :: r, k => if k = e.1 then r else e :: dA r k
def keysM (m : MV α) : List Int := m.map fun p => p.1
def sortM (m : MV α) : List Int := (keysM m).mergeSort (leOf cmp1)
def rowsM (z : α) (m : MV α) : RV α := (sortM m).map fun k => (k, (gA z m k, ()))
def SortR (l : RV α) : Prop := l.Pairwise fun a b => ltOf cmp1 a.1 b.1 = true

theorem hasM_val (m : MV α) (k : Int) : hA m k = decide (k ∈ keysM m) := by
  induction m with
  | nil => rfl
  | cons e r ih =>
    show (decide (k = e.1) || hA r k) = decide (k ∈ e.1 :: keysM r)
    rw [ih, Bool.eq_iff_iff]
    simp
theorem getM_cons (e : Int × α) (r : MV α) (k : Int) : gA z (e :: r) k = if k = e.1 then e.2 else gA z r k := rfl
theorem putM_cons (e : Int × α) (r : MV α) (k : Int) (v : α) : pA (e :: r) k v = if k = e.1 then (k, v) :: r else e :: pA r k v := rfl
theorem delM_cons (e : Int × α) (r : MV α) (k : Int) : dA (e :: r) k = if k = e.1 then r else e :: dA r k := rfl
theorem getM_put (m : MV α) (k k' : Int) (v : α) : gA z (pA m k v) k' = if k' = k then v else gA z m k' := by
  induction m with
  | nil =>
    rfl
  | cons e r ih =>
    rw [putM_cons]
    by_cases h : k = e.1
    · rw [if_pos h, getM_cons, getM_cons]
      by_cases h2 : k' = k
      · rw [if_pos h2, if_pos h2]
      · rw [if_neg h2, if_neg h2, if_neg (fun q => h2 (q.trans h.symm))]
    · rw [if_neg h, getM_cons, getM_cons, ih]
      by_cases h2 : k' = e.1
      · rw [if_pos h2, if_pos h2, if_neg (fun q => h (q.symm.trans h2))]
      · rw [if_neg h2, if_neg h2]
theorem keys_put (m : MV α) (k : Int) (v : α) : keysM (pA m k v) = if k ∈ keysM m then keysM m else keysM m ++ [k] := by
  induction m with
  | nil => rw [if_neg (by simp [keysM])]; rfl
  | cons e r ih =>
    rw [putM_cons]
    by_cases h : k = e.1
    · rw [if_pos h, if_pos (by simp [keysM, h])]
      show k :: keysM r = e.1 :: keysM r
      rw [h]
    · rw [if_neg h]
      show e.1 :: keysM (pA r k v) = if k ∈ e.1 :: keysM r then e.1 :: keysM r else e.1 :: keysM r ++ [k]
      rw [ih]
      by_cases h2 : k ∈ keysM r
      · rw [if_pos h2, if_pos (List.mem_cons_of_mem _ h2)]
      · rw [if_neg h2, if_neg (fun q => (List.mem_cons.1 q).elim h h2)]; rfl
theorem mem_put (m : MV α) (k x : Int) (v : α) : x ∈ keysM (pA m k v) ↔ x = k ∨ x ∈ keysM m := by
  rw [keys_put]
  by_cases h : k ∈ keysM m
  · rw [if_pos h]
    exact ⟨.inr, fun q => q.elim (fun e => e ▸ h) id⟩
  · rw [if_neg h, List.mem_append, List.mem_singleton]
    exact ⟨Or.symm, Or.symm⟩
theorem nodup_put {m : MV α} (h : (keysM m).Nodup) (k : Int) (v : α) : (keysM (pA m k v)).Nodup := by
  rw [keys_put]
  by_cases q : k ∈ keysM m
  · rw [if_pos q]; exact h
  · rw [if_neg q]
    exact List.nodup_append.2 ⟨h, by simp, fun a ha b hb e => q (by rw [List.mem_singleton.1 hb] at e; exact e ▸ ha)⟩
theorem len_keys (m : MV α) : (keysM m).length = m.length := by unfold keysM; rw [List.length_map]
theorem len_put (m : MV α) (k : Int) (v : α) : (pA m k v).length ≤ m.length + 1 := by
  rw [← len_keys, keys_put, ← len_keys]
  split
  · omega
  · simp
theorem keys_del (m : MV α) (k : Int) : keysM (dA m k) = (keysM m).erase k := by
  induction m with
  | nil => rfl
  | cons e r ih =>
    rw [delM_cons]
    show _ = (e.1 :: keysM r).erase k
    by_cases h : k = e.1
    · rw [if_pos h, h, List.erase_cons_head]
    · rw [if_neg h, List.erase_cons_tail (by simpa using fun q : e.1 = k => h q.symm)]
      show e.1 :: keysM (dA r k) = _
      rw [ih]
theorem getM_del (m : MV α) (k k' : Int) (hne : k' ≠ k) : gA z (dA m k) k' = gA z m k' := by
  induction m with
  | nil => rfl
  | cons e r ih =>
    rw [delM_cons, getM_cons]
    by_cases h : k = e.1
    · rw [if_pos h, if_neg (fun q => hne (q.trans h.symm))]
    · rw [if_neg h, getM_cons, ih]
theorem getM_none (m : MV α) (k : Int) (h : k ∉ keysM m) : gA z m k = z := by
  induction m with
  | nil => rfl
  | cons e r ih =>
    rw [getM_cons, if_neg (fun q => h (by rw [q]; exact List.mem_cons_self))]
    exact ih fun q => h (List.mem_cons_of_mem _ q)

theorem sortM_len (m : MV α) : (sortM m).length = m.length := by
  unfold sortM keysM
  rw [List.length_mergeSort, List.length_map]
theorem mem_sortM (m : MV α) (k : Int) : k ∈ sortM m ↔ k ∈ keysM m := (List.mergeSort_perm _ _).mem_iff
theorem rows_len (m : MV α) : (rowsM z m).length = m.length := by unfold rowsM; rw [List.length_map, sortM_len]
theorem rows_sorted {m : MV α} (h : (keysM m).Nodup) : SortR (rowsM z m) := by
  unfold SortR rowsM
  rw [List.pairwise_map]
  exact sort_rises h
theorem mem_rows {m : MV α} (x : Int × α × Unit) : x ∈ rowsM z m ↔ x.1 ∈ keysM m ∧ x.2.1 = gA z m x.1 := by
  unfold rowsM
  rw [List.mem_map]
  constructor
  · rintro ⟨k, hk, rfl⟩
    exact ⟨(mem_sortM m k).1 hk, rfl⟩
  · rintro ⟨h1, h2⟩
    obtain ⟨x1, x2, u⟩ := x
    have h2 : x2 = gA z m x1 := h2
    subst h2
    exact ⟨x1, (mem_sortM m _).2 h1, rfl⟩
theorem SortR.nodup {l : RV α} (h : SortR l) : l.Nodup := h.imp fun {a b} q e => by
  subst e; rw [swo1.irrefl] at q; cases q
theorem rows_unique {l l' : RV α} (h : SortR l) (h' : SortR l') (hm : ∀ x, x ∈ l ↔ x ∈ l') : l = l' := by
  have n1 : l.Nodup := SortR.nodup h
  have n2 : l'.Nodup := SortR.nodup h'
  have hp : l.Perm l' := (List.perm_ext_iff_of_nodup n1 n2).2 hm
  have h1 : l.Pairwise fun a b => ltOf cmp1 a.1 b.1 = true := h
  have h2 : l'.Pairwise fun a b => ltOf cmp1 a.1 b.1 = true := h'
  have hany : ∀ a b : Int × α × Unit, a ∈ l → b ∈ l' → ltOf cmp1 a.1 b.1 = true → ltOf cmp1 b.1 a.1 = true → a = b := fun a b _ _ q1 q2 => by
    rw [lt_asymm q1] at q2; cases q2
  exact List.Perm.eq_of_pairwise hany h1 h2 hp
theorem SortR.head {x : Int × α × Unit} {l : RV α} (h : SortR (x :: l)) : ∀ y ∈ l, ltOf cmp1 x.1 y.1 = true := (List.pairwise_cons.1 h).1
theorem SortR.tail {x : Int × α × Unit} {l : RV α} (h : SortR (x :: l)) : SortR l := (List.pairwise_cons.1 h).2

/-- A row more, at its place. -/
def insS (k : Int) (v : α) : RV α → RV α
  | [] => [(k, (v, ()))]
  | x :: l => if ltOf cmp1 x.1 k = true then x :: insS k v l else if x.1 = k then (k, (v, ())) :: l else (k, (v, ())) :: x :: l
theorem insS_mem (k : Int) (v : α) : ∀ (l : RV α), SortR l → ∀ x, x ∈ insS k v l ↔ x = (k, (v, ())) ∨ (x ∈ l ∧ x.1 ≠ k)
  | [], _, x => by simp [insS]
  | e :: l, h, x => by
    rw [insS]
    by_cases h1 : ltOf cmp1 e.1 k = true
    · have hne : e.1 ≠ k := fun q => by rw [q, swo1.irrefl] at h1; cases h1
      rw [if_pos h1, List.mem_cons, insS_mem k v l h.tail, List.mem_cons]
      constructor
      · rintro (q | q | ⟨q1, q2⟩)
        · exact .inr ⟨.inl q, by rw [q]; exact hne⟩
        · exact .inl q
        · exact .inr ⟨.inr q1, q2⟩
      · rintro (q | ⟨q1 | q1, q2⟩)
        · exact .inr (.inl q)
        · exact .inl q1
        · exact .inr (.inr ⟨q1, q2⟩)
    · rw [if_neg h1]
      by_cases h2 : e.1 = k
      · rw [if_pos h2, List.mem_cons, List.mem_cons]
        constructor
        · rintro (q | q)
          · exact .inl q
          · refine .inr ⟨.inr q, fun e' => ?_⟩
            have := h.head x q
            rw [h2, e', swo1.irrefl] at this; cases this
        · rintro (q | ⟨q1 | q1, q2⟩)
          · exact .inl q
          · exact absurd (by rw [q1]; exact h2) q2
          · exact .inr q1
      · rw [if_neg h2, List.mem_cons, List.mem_cons]
        have hlt : ltOf cmp1 k e.1 = true := by
          cases hq : ltOf cmp1 k e.1 with
          | true => rfl
          | false => exact absurd (tot1 e.1 k (by simpa using h1) hq) h2
        constructor
        · rintro (q | q | q)
          · exact .inl q
          · exact .inr ⟨.inl q, by rw [q]; exact h2⟩
          · refine .inr ⟨.inr q, fun e' => ?_⟩
            have := swo1.trans _ _ _ hlt (h.head x q)
            rw [e', swo1.irrefl] at this; cases this
        · rintro (q | ⟨q1 | q1, q2⟩)
          · exact .inl q
          · exact .inr (.inl q1)
          · exact .inr (.inr q1)
theorem insS_sorted (k : Int) (v : α) : ∀ (l : RV α), SortR l → SortR (insS k v l)
  | [], _ => List.pairwise_singleton _ _
  | e :: l, h => by
    rw [insS]
    by_cases h1 : ltOf cmp1 e.1 k = true
    · rw [if_pos h1]
      refine List.pairwise_cons.2 ⟨fun y hy => ?_, insS_sorted k v l h.tail⟩
      rcases (insS_mem k v l h.tail y).1 hy with q | ⟨q, _⟩
      · rw [q]; exact h1
      · exact h.head y q
    · rw [if_neg h1]
      by_cases h2 : e.1 = k
      · rw [if_pos h2]
        exact List.pairwise_cons.2 ⟨fun y hy => by show ltOf cmp1 k y.1 = true; rw [← h2]; exact h.head y hy, h.tail⟩
      · rw [if_neg h2]
        have hlt : ltOf cmp1 k e.1 = true := by
          cases hq : ltOf cmp1 k e.1 with
          | true => rfl
          | false => exact absurd (tot1 e.1 k (by simpa using h1) hq) h2
        refine List.pairwise_cons.2 ⟨fun y hy => ?_, h⟩
        rcases List.mem_cons.1 hy with q | q
        · rw [q]; exact hlt
        · exact swo1.trans _ _ _ hlt (h.head y q)
theorem rows_put {m : MV α} (h : (keysM m).Nodup) (k : Int) (v : α) : rowsM z (pA m k v) = insS k v (rowsM z m) := by
  refine rows_unique (rows_sorted (nodup_put h k v)) (insS_sorted k v _ (rows_sorted h)) fun x => ?_
  rw [mem_rows, insS_mem k v _ (rows_sorted h), mem_put, getM_put, mem_rows]
  obtain ⟨x1, x2, -⟩ := x
  show (x1 = k ∨ x1 ∈ keysM m) ∧ x2 = (if x1 = k then v else gA z m x1) ↔ ((x1, (x2, ())) = (k, (v, ()))) ∨ (x1 ∈ keysM m ∧ x2 = gA z m x1) ∧ x1 ≠ k
  by_cases q : x1 = k
  · subst q
    rw [if_pos rfl]
    constructor
    · rintro ⟨-, e⟩; exact .inl (by rw [e])
    · rintro (e | ⟨-, e⟩)
      · cases e; exact ⟨.inl rfl, rfl⟩
      · exact absurd rfl e
  · rw [if_neg q]
    constructor
    · rintro ⟨e | e, e2⟩
      · exact absurd e q
      · exact .inr ⟨⟨e, e2⟩, q⟩
    · rintro (e | ⟨⟨e, e2⟩, -⟩)
      · cases e; exact absurd rfl q
      · exact ⟨.inr e, e2⟩
theorem rows_del {m : MV α} (h : (keysM m).Nodup) (k : Int) : rowsM z (dA m k) = (rowsM z m).filter fun x => decide (x.1 ≠ k) := by
  have hk := keys_del m k
  refine rows_unique (rows_sorted (by rw [hk]; exact h.erase k)) ((rows_sorted h).sublist List.filter_sublist) fun x => ?_
  rw [mem_rows, List.mem_filter, mem_rows, hk, h.mem_erase_iff, decide_eq_true_eq]
  constructor
  · rintro ⟨⟨a, b⟩, c⟩
    rw [getM_del m k x.1 a] at c
    exact ⟨⟨b, c⟩, a⟩
  · rintro ⟨⟨b, c⟩, a⟩
    rw [getM_del m k x.1 a]
    exact ⟨⟨a, b⟩, c⟩
/-- A key's row. -/
theorem rows_find {m : MV α} (k : Int) : (rowsM z m).find? (fun x => eqE (.int .u32) x.1 k) = if k ∈ keysM m then some (k, (gA z m k, ())) else none := by
  by_cases h : k ∈ keysM m
  · rw [if_pos h]
    have hm : (k, (gA z m k, ())) ∈ rowsM z m := (mem_rows _).2 ⟨h, rfl⟩
    cases hf : (rowsM z m).find? (fun x => eqE (.int .u32) x.1 k) with
    | none => have := (List.find?_eq_none.1 hf) _ hm; exact absurd (eqK_refl k) this
    | some y =>
      have h1 := List.find?_some hf
      have h2 := (mem_rows y).1 (List.mem_of_find?_eq_some hf)
      have h3 : y.1 = k := eqK_iff.1 h1
      obtain ⟨y1, y2, u⟩ := y
      have e3 : y1 = k := h3
      have h4 : y2 = gA z m y1 := h2.2
      rw [h4, e3]
  · rw [if_neg h, List.find?_eq_none]
    intro x hx hq
    have := ((mem_rows x).1 hx).1
    rw [eqK_iff.1 hq] at this
    exact h this
end
end Go.Proofs.Pure

/- A journal and the document's list of transactions: what is put in, what is told. -/
namespace Go.Proofs.Pure
open Go.Proofs.D Go.Proofs.F

abbrev OpE := (Int × Int × Int × Unit) × Int × Unit
abbrev TxE := Int × Int × Int × Bool × Bool × List OpE × Int × Int × Unit
abbrev JnE := List (Int × TxE)
def txZ : TxE := (0, (0, (0, (false, (false, ([], (0, (0, ()))))))))
def jOf (l : JnE) : (Unit × Unit) × JnE × Unit := (((), ()), (l, ()))
theorem bind_of {α β : Type} {o : Option α} {x : α} {f : α → Option β} (h : o = some x) : o.bind f = f x := by rw [h]; rfl
theorem eqK_d (a b : Int) : eqE (.int .u32) a b = decide (a = b) := eqK_dec a b

/-! ### The list in order -/
def insT (t : TxE) : List TxE → List TxE
  | [] => [t]
  | u :: r => if u.1 < t.1 then u :: insT t r else if u.1 = t.1 then t :: r else t :: u :: r
/-- With, as the document has it. -/
def wT (t : TxE) : List TxE → List TxE
  | [] => [t]
  | u :: r => if u.1 > t.1 then t :: u :: r else u :: wT t r
abbrev Rise (x : List TxE) : Prop := x.Pairwise fun a b => a.1 < b.1
theorem wT_ins (t : TxE) : ∀ x : List TxE, Rise x → wT t (x.filter fun u => u.1 != t.1) = insT t x
  | [], _ => rfl
  | u :: r, h => by
    have h1 := List.pairwise_cons.1 h
    unfold insT
    by_cases c : u.1 < t.1
    · rw [if_pos c, List.filter_cons_of_pos (by simp; omega)]
      unfold wT
      rw [if_neg (by omega), wT_ins t r h1.2]
    · rw [if_neg c]
      have hr : (r.filter fun u => u.1 != t.1) = r := List.filter_eq_self.2 fun y hy => by have := h1.1 y hy; simp; omega
      by_cases e : u.1 = t.1
      · rw [if_pos e, List.filter_cons_of_neg (by simp [e]), hr]
        cases r with
        | nil => rfl
        | cons y r =>
          have := h1.1 y List.mem_cons_self
          unfold wT
          rw [if_pos (by omega)]
      · rw [if_neg e, List.filter_cons_of_pos (by simp [e]), hr]
        unfold wT
        rw [if_pos (by omega)]
theorem insT_len (t : TxE) : ∀ x : List TxE, (insT t x).length ≤ x.length + 1
  | [] => by simp [insT]
  | u :: r => by
    have := insT_len t r
    unfold insT; split
    · simp; omega
    · split <;> simp
theorem insT_mem (t : TxE) : ∀ x : List TxE, ∀ y ∈ insT t x, y = t ∨ y ∈ x
  | [], y, hy => by simp [insT] at hy; exact .inl hy
  | u :: r, y, hy => by
    unfold insT at hy; split at hy
    · rcases List.mem_cons.1 hy with e | e
      · exact .inr (by rw [e]; exact List.mem_cons_self)
      · exact (insT_mem t r y e).imp id (List.mem_cons_of_mem _)
    · split at hy
      · rcases List.mem_cons.1 hy with e | e
        · exact .inl e
        · exact .inr (List.mem_cons_of_mem _ e)
      · rcases List.mem_cons.1 hy with e | e
        · exact .inl e
        · exact .inr e
theorem insT_rise (t : TxE) : ∀ x : List TxE, Rise x → Rise (insT t x)
  | [], _ => by simp [insT]
  | u :: r, h => by
    have h1 := List.pairwise_cons.1 h
    unfold insT; split
    · rename_i c
      refine List.pairwise_cons.2 ⟨fun y hy => ?_, insT_rise t r h1.2⟩
      rcases insT_mem t r y hy with e | e
      · rw [e]; exact c
      · exact h1.1 y e
    · split
      · rename_i c e
        exact List.pairwise_cons.2 ⟨fun y hy => by have := h1.1 y hy; omega, h1.2⟩
      · rename_i c e
        refine List.pairwise_cons.2 ⟨fun y hy => ?_, h⟩
        rcases List.mem_cons.1 hy with q | q
        · rw [q]; omega
        · have := h1.1 y q; omega
def rowT (t : TxE) : Int × TxE × Unit := (t.1, (t, ()))
theorem insS_rows (t : TxE) : ∀ x : List TxE, insS t.1 t (x.map rowT) = (insT t x).map rowT
  | [] => rfl
  | u :: r => by
    show (if ltOf cmp1 u.1 t.1 = true then rowT u :: insS t.1 t (r.map rowT) else if u.1 = t.1 then (t.1, (t, ())) :: r.map rowT else (t.1, (t, ())) :: rowT u :: r.map rowT) = _
    unfold insT
    rw [lt1, insS_rows t r]
    by_cases c : u.1 < t.1
    · rw [if_pos (by simpa using c), if_pos c]; rfl
    · rw [if_neg (by simpa using c), if_neg c]
      by_cases e : u.1 = t.1
      · rw [if_pos e, if_pos e]; rfl
      · rw [if_neg e, if_neg e]; rfl

/-! ### The document's loops -/
theorem fold_filter (p : TxE → Bool) : ∀ (l acc : List TxE), l.foldl (fun a u => if p u then a ++ [u] else a) acc = acc ++ l.filter p
  | [], acc => by simp
  | u :: l, acc => by
    rw [List.foldl_cons, fold_filter p l]
    cases h : p u <;> simp [h]
theorem without_val (x : List TxE) (id : Int) (hl : x.length ≤ 1000) : pledgeref19_Without x id = some (x.filter fun u => u.1 != id) := by
  unfold pledgeref19_Without
  have := loop_walk (step := pledgeref19_Without.l1) x (fun i (a : List TxE) => ((x, (id, ((), (i : Int)))), (a, ()))) (fun _ u a => .inl (if (u.1 != id) = true then a ++ [u] else a)) (fun a => ((), (a, ()))) (fun i a => a.length ≤ i) [] (by omega) (by simp) (fun i y a hx hi => by
    have hlt := get_lt hx
    refine ⟨?_, fun b hb => by cases hb; split <;> (try simp only [List.length_append, List.length_singleton]) <;> omega⟩
    unfold pledgeref19_Without.l1
    simp only [dec_t (show (i : Int) < (x.length : Int) by omega), cond_true]
    rw [nthK_get hx, nthK_get hx, room_ok (by simp; omega), succ_i64 (by omega)]
    cases hc : ((y.1 : Int) != id) <;> simp [hc]) (fun a _ => by
    unfold pledgeref19_Without.l1
    simp only [dec_f (show ¬ (x.length : Int) < (x.length : Int) by omega), cond_false])
  rw [show (((0 : Nat) : Int)) = 0 from rfl] at this
  rw [this, walk_foldl (fun (a : List TxE) (u : TxE) => if (u.1 != id) = true then a ++ [u] else a), fold_filter]
  rfl
def wAcc (t : TxE) (s : Bool × List TxE) (u : TxE) : Bool × List TxE := if s.1 = false ∧ u.1 > t.1 then (true, s.2 ++ [t] ++ [u]) else (s.1, s.2 ++ [u])
def wEnd (t : TxE) (s : Bool × List TxE) : List TxE := if s.1 = false then s.2 ++ [t] else s.2
theorem wAcc_done (t : TxE) : ∀ (l a : List TxE), l.foldl (wAcc t) (true, a) = (true, a ++ l)
  | [], a => by simp
  | u :: l, a => by
    rw [List.foldl_cons]
    unfold wAcc at *
    rw [if_neg (by simp)]
    exact (wAcc_done t l (a ++ [u])).trans (by simp)
theorem wAcc_all (t : TxE) : ∀ (l a : List TxE), wEnd t (l.foldl (wAcc t) (false, a)) = a ++ wT t l
  | [], a => rfl
  | u :: l, a => by
    rw [List.foldl_cons]
    by_cases c : u.1 > t.1
    · have e : wAcc t (false, a) u = (true, a ++ [t] ++ [u]) := if_pos ⟨rfl, c⟩
      rw [e, wAcc_done]
      unfold wT wEnd
      rw [if_pos c]; simp
    · have e : wAcc t (false, a) u = (false, a ++ [u]) := if_neg (by simp; omega)
      rw [e, wAcc_all t l, show wT t (u :: l) = if u.1 > t.1 then t :: u :: l else u :: wT t l from rfl, if_neg c]; simp
theorem with_val (x : List TxE) (t : TxE) (hl : x.length ≤ 1000) (hr : Rise x) : pledgeref19_With x t = some (insT t x) := by
  unfold pledgeref19_With
  refine (bind_of (without_val x t.1 hl)).trans ?_
  rw [← wT_ins t x hr]
  have hl2 : (x.filter fun u => u.1 != t.1).length ≤ 1000 := Nat.le_trans (List.length_filter_le _ _) hl
  generalize (x.filter fun u => u.1 != t.1) = y at hl2 ⊢
  have := loop_walk (step := pledgeref19_With.l1) y (fun i (s : Bool × List TxE) => ((y, ((), ((), (s.1, (i : Int))))), (t, (s.2, ())))) (fun _ u s => .inl (wAcc t s u)) (fun s => (((), ((), s.1)), (t, (s.2, ())))) (fun i s => s.2.length ≤ 2 * i) (false, []) (by omega) (by simp) (fun i u s hx hi => by
    have hlt := get_lt hx
    obtain ⟨d, a⟩ := s
    refine ⟨?_, fun b hb => by cases hb; unfold wAcc; split <;> simp at hi ⊢ <;> omega⟩
    unfold pledgeref19_With.l1 wAcc
    simp only [dec_t (show (i : Int) < (y.length : Int) by omega), cond_true]
    rw [nthK_get hx, nthK_get hx, nthK_get hx]
    simp only at hi
    rw [succ_i64 (by omega)]
    cases d with
    | true => rw [room_ok (show a.length + [u].length ≤ 4294967296 by simp; omega)]; rfl
    | false =>
      by_cases c : u.1 > t.1
      · rw [dec_t c, if_pos ⟨rfl, c⟩, room_ok (show a.length + [t].length ≤ 4294967296 by simp; omega), room_ok (show (a ++ [t]).length + [u].length ≤ 4294967296 by simp; omega)]; rfl
      · rw [dec_f c, if_neg (by simp; omega), room_ok (show a.length + [u].length ≤ 4294967296 by simp; omega)]; rfl) (fun s _ => by
    unfold pledgeref19_With.l1
    simp only [dec_f (show ¬ (y.length : Int) < (y.length : Int) by omega), cond_false])
  rw [show (((0 : Nat) : Int)) = 0 from rfl] at this
  rw [walk_foldl (wAcc t)] at this
  refine (bind_of this).trans ?_
  have hall := wAcc_all t y []
  have hlen : (y.foldl (wAcc t) (false, [])).2.length ≤ 2 * y.length := by
    have : ∀ (l : List TxE) (s : Bool × List TxE), (l.foldl (wAcc t) s).2.length ≤ s.2.length + 2 * l.length := by
      intro l
      induction l with
      | nil => intro s; simp
      | cons u l ih =>
        intro s
        rw [List.foldl_cons]
        have h1 := ih (wAcc t s u)
        have h2 : (wAcc t s u).2.length ≤ s.2.length + 2 := by unfold wAcc; split <;> simp
        simp only [List.length_cons]; omega
    have := this y (false, [])
    simpa using this
  generalize y.foldl (wAcc t) (false, []) = s at hall hlen ⊢
  obtain ⟨d, a⟩ := s
  unfold wEnd at hall
  simp only [List.nil_append] at hall hlen
  rw [← hall]
  cases d with
  | true => rfl
  | false =>
    show room (a.length + [t].length) (some (a ++ [t])) = _
    rw [room_ok (by simp; omega)]; rfl

/-! ### A journal of some transactions -/
def mapOf (l : List TxE) : JnE := l.foldl (fun m t => pA m t.1 t) []
def listOf (l : List TxE) : List TxE := l.foldl (fun x t => insT t x) []
theorem refNew_val (l : List TxE) (hl : l.length ≤ 900) : pledgeref19_New l = some (listOf l) ∧ Rise (listOf l) ∧ (listOf l).length ≤ l.length := by
  have h := loop_walk (step := pledgeref19_New.l1) l (fun i (a : List TxE) => (l, (a, (i : Int)))) (fun _ u a => .inl (insT u a)) (fun a => a) (fun i a => a.length ≤ i ∧ Rise a) [] (by omega) ⟨by simp, List.Pairwise.nil⟩ (fun i y a hx hi => by
    have hlt := get_lt hx
    refine ⟨?_, fun b hb => by cases hb; exact ⟨by have := insT_len y a; omega, insT_rise y a hi.2⟩⟩
    unfold pledgeref19_New.l1
    simp only [dec_t (show (i : Int) < (l.length : Int) by omega), cond_true]
    rw [nthK_get hx, with_val a y (by omega) hi.2, Option.bind_some, succ_i64 (by omega)]) (fun a _ => by
    unfold pledgeref19_New.l1
    simp only [dec_f (show ¬ (l.length : Int) < (l.length : Int) by omega), cond_false])
  rw [show (((0 : Nat) : Int)) = 0 from rfl, walk_foldl (fun a u => insT u a)] at h
  have h2 : ∀ (k a : List TxE), Rise a → Rise (k.foldl (fun x t => insT t x) a) ∧ (k.foldl (fun x t => insT t x) a).length ≤ a.length + k.length := by
    intro k
    induction k with
    | nil => intro a ha; exact ⟨ha, by simp⟩
    | cons u k ih =>
      intro a ha
      obtain ⟨g1, g2⟩ := ih (insT u a) (insT_rise u a ha)
      have := insT_len u a
      exact ⟨g1, by simp only [List.foldl_cons, List.length_cons]; omega⟩
  obtain ⟨g1, g2⟩ := h2 l [] List.Pairwise.nil
  refine ⟨?_, g1, by show (l.foldl (fun x t => insT t x) []).length ≤ _; simpa using g2⟩
  unfold pledgeref19_New
  exact (bind_of h).trans rfl
theorem apart_val (t : TxE) (h : t.2.2.2.2.2.1.length ≤ 4294967296) : journal_apart t = some t := by
  show (bif Nat.ble t.2.2.2.2.2.1.length 4294967296 then some _ else none) = _
  rw [Nat.ble_eq_true_of_le h]; rfl
theorem put_pA : ∀ (m : JnE) (k : Int) (t : TxE), (putM (.int .u32) kTxn m k t : JnE) = pA m k t
  | [], k, t => rfl
  | e :: r, k, t => by
    have h1 : (putM (.int .u32) kTxn (e :: r : JnE) k t : JnE) = bif eqE (.int .u32) k e.1 then (k, t) :: r else e :: (putM (.int .u32) kTxn r k t : JnE) := rfl
    have h2 : (bif eqE (.int .u32) k e.1 then (k, t) :: r else e :: pA r k t : JnE) = pA (e :: r) k t := by
      rw [eqK_d, putM_cons]
      by_cases c : k = e.1 <;> simp [c]
    exact (h1.trans (congrArg (fun z : JnE => (bif eqE (.int .u32) k e.1 then (k, t) :: r else e :: z : JnE)) (put_pA r k t))).trans h2
theorem get_gA : ∀ (m : JnE) (k : Int), (getM (.int .u32) kTxn m k : TxE) = gA txZ m k
  | [], k => rfl
  | e :: r, k => by
    have h1 : (getM (.int .u32) kTxn (e :: r : JnE) k : TxE) = bif eqE (.int .u32) k e.1 then e.2 else (getM (.int .u32) kTxn r k : TxE) := rfl
    have h2 : (bif eqE (.int .u32) k e.1 then e.2 else gA txZ r k : TxE) = gA txZ (e :: r) k := by
      rw [eqK_d, getM_cons]
      by_cases c : k = e.1 <;> simp [c]
    exact (h1.trans (congrArg (fun z : TxE => (bif eqE (.int .u32) k e.1 then e.2 else z : TxE)) (get_gA r k))).trans h2
theorem has_hA : ∀ (m : JnE) (k : Int), hasM (.int .u32) kTxn m k = hA m k
  | [], k => rfl
  | e :: r, k => by
    have h1 : hasM (.int .u32) kTxn (e :: r : JnE) k = (eqE (.int .u32) k e.1 || hasM (.int .u32) kTxn r k) := rfl
    have h2 : (eqE (.int .u32) k e.1 || hA r k) = hA (e :: r) k := by rw [eqK_d]; rfl
    exact (h1.trans (congrArg (fun z => (eqE (.int .u32) k e.1 || z)) (has_hA r k))).trans h2
theorem newJ_val (l : List TxE) (hl : l.length ≤ 900) (hs : ∀ t ∈ l, t.2.2.2.2.2.1.length ≤ 20) : journal_New l = some ((), jOf (mapOf l)) := by
  have h := loop_walk (step := journal_New.l1) l (fun i (m : JnE) => (((), (l, ((l.length : Int), (i : Int)))), (((), ()), (m, ())))) (fun _ u m => .inl (pA m u.1 u)) (fun m => ((), jOf m)) (fun _ _ => True) [] (by omega) trivial (fun i y m hx _ => by
    have hlt := get_lt hx
    refine ⟨?_, fun _ _ => trivial⟩
    unfold journal_New.l1
    simp only [dec_t (show (i : Int) < (l.length : Int) by omega), cond_true]
    rw [nthK_get hx, apart_val y (by have := hs y (get_mem hx); omega), Option.bind_some, succ_i64 (by omega), put_pA]) (fun m _ => by
    unfold journal_New.l1
    simp only [dec_f (show ¬ (l.length : Int) < (l.length : Int) by omega), cond_false]
    rfl)
  rw [show (((0 : Nat) : Int)) = 0 from rfl, walk_foldl (fun m (u : TxE) => pA m u.1 u)] at h
  unfold journal_New
  exact (bind_of h).trans rfl

/-- A journal has what the document's list has. -/
structure JR (m : JnE) (x : List TxE) : Prop where
  nd : (keysM m).Nodup
  rows : rowsM txZ m = x.map rowT
theorem JR.put {m : JnE} {x : List TxE} (h : JR m x) (t : TxE) : JR (pA m t.1 t) (insT t x) := ⟨nodup_put h.nd t.1 t, by rw [rows_put h.nd, h.rows, insS_rows]⟩
theorem JR.nil : JR [] [] := ⟨List.nodup_nil, by unfold rowsM sortM keysM; simp⟩
theorem JR.new (l : List TxE) : JR (mapOf l) (listOf l) := by
  have : ∀ (k : List TxE) (m : JnE) (x : List TxE), JR m x → JR (k.foldl (fun m t => pA m t.1 t) m) (k.foldl (fun x t => insT t x) x) := by
    intro k
    induction k with
    | nil => intro m x h; exact h
    | cons t k ih => intro m x h; exact ih _ _ (h.put t)
  exact this l [] [] JR.nil
theorem JR.len {m : JnE} {x : List TxE} (h : JR m x) : m.length = x.length := by
  have := congrArg List.length h.rows
  rw [rows_len] at this; simpa using this
theorem JR.find {m : JnE} {x : List TxE} (h : JR m x) (k : Int) : x.find? (fun t => t.1 == k) = if k ∈ keysM m then some (gA txZ m k) else none := by
  have hf := rows_find (z := txZ) (m := m) k
  rw [h.rows, List.find?_map] at hf
  have e : ((fun x : Int × TxE × Unit => eqE (.int .u32) x.1 k) ∘ rowT) = fun t => t.1 == k := rfl
  rw [e] at hf
  cases hx : x.find? (fun t => t.1 == k) with
  | none =>
    rw [hx] at hf
    by_cases c : k ∈ keysM m
    · rw [if_pos c] at hf; cases hf
    · rw [if_neg c]
  | some t =>
    rw [hx] at hf
    by_cases c : k ∈ keysM m
    · rw [if_pos c] at hf ⊢
      have hf : (rowT t) = (k, (gA txZ m k, ())) := Option.some.inj hf
      have : t = gA txZ m k := congrArg (fun r : Int × TxE × Unit => r.2.1) hf
      rw [this]
    · rw [if_neg c] at hf; cases hf
theorem JR.vals {m : JnE} {x : List TxE} (h : JR m x) : (sortM m).map (gA txZ m) = x := by
  have := congrArg (List.map fun r : Int × TxE × Unit => r.2.1) h.rows
  unfold rowsM at this
  rw [List.map_map, List.map_map] at this
  have e : (fun r : Int × TxE × Unit => r.2.1) ∘ rowT = id := rfl
  rw [e, List.map_id] at this
  exact this
end Go.Proofs.Pure

/- What is told of any transactions. -/
namespace Go.Proofs.Pure
open Go.Proofs.D Go.Proofs.F

theorem works19 : pledgelaw19_works = some true := by kernel_rfl
/-! ### Which are found -/
def foundT (o : Option TxE) : TxE × Bool × Unit := match o with | some t => (t, (true, ())) | none => (txZ, (false, ()))
theorem walk_find {X : Type} (p : TxE → Bool) (k : TxE → X) (d : X) : ∀ (l : List TxE) (i : Nat), walkL (X := X) (fun _ u (_ : Unit) => if p u = true then .inr (k u) else .inl ()) (fun _ => d) i l () = (match l.find? p with | some u => k u | none => d)
  | [], i => rfl
  | u :: l, i => by
    rw [walkL, List.find?_cons]
    cases h : p u with
    | true => simp
    | false => simp only [Bool.false_eq_true, if_false]; exact walk_find p k d l (i + 1)
theorem refGet_val (x : List TxE) (id : Int) (hl : x.length ≤ 1000) : pledgeref19_Get x id = some (foundT (x.find? fun t => t.1 == id)) := by
  unfold pledgeref19_Get
  have h := loop_walk (step := pledgeref19_Get.l1) x (fun i (_ : Unit) => ((x, (id, ((), (i : Int)))), ((0, (0, (0, (false, (false, ((), (0, (0, ())))))))), ()))) (fun _ u _ => if (u.1 == id) = true then .inr (.inr (((), true), (u, ()))) else .inl ()) (fun _ => .inl ((), ((0, (0, (0, (false, (false, ((), (0, (0, ())))))))), ()))) (fun _ _ => True) () (by omega) trivial (fun i y a hx _ => by
    have hlt := get_lt hx
    refine ⟨?_, fun _ _ => trivial⟩
    unfold pledgeref19_Get.l1
    simp only [dec_t (show (i : Int) < (x.length : Int) by omega), cond_true]
    rw [nthK_get hx, nthK_get hx, succ_i64 (by omega)]
    cases h : ((y.1 : Int) == id) <;> simp) (fun a _ => by
    unfold pledgeref19_Get.l1
    simp only [dec_f (show ¬ (x.length : Int) < (x.length : Int) by omega), cond_false])
  rw [show (((0 : Nat) : Int)) = 0 from rfl, walk_find (fun u => u.1 == id) (fun u => Sum.inr (((), true), (u, ())))] at h
  refine (bind_of h).trans ?_
  cases x.find? (fun u => u.1 == id) <;> rfl
theorem refOf_val (x : List TxE) (id : Int) (hl : x.length ≤ 1000) : pledgeref19_Of x id = some (foundT (x.find? fun t => t.2.1 == id)) := by
  unfold pledgeref19_Of
  have h := loop_walk (step := pledgeref19_Of.l1) x (fun i (_ : Unit) => ((x, (id, ((), (i : Int)))), ((0, (0, (0, (false, (false, ((), (0, (0, ())))))))), ()))) (fun _ u _ => if (u.2.1 == id) = true then .inr (.inr (((), true), (u, ()))) else .inl ()) (fun _ => .inl ((), ((0, (0, (0, (false, (false, ((), (0, (0, ())))))))), ()))) (fun _ _ => True) () (by omega) trivial (fun i y a hx _ => by
    have hlt := get_lt hx
    refine ⟨?_, fun _ _ => trivial⟩
    unfold pledgeref19_Of.l1
    simp only [dec_t (show (i : Int) < (x.length : Int) by omega), cond_true]
    rw [nthK_get hx, nthK_get hx, succ_i64 (by omega)]
    cases h : ((y.2.1 : Int) == id) <;> simp) (fun a _ => by
    unfold pledgeref19_Of.l1
    simp only [dec_f (show ¬ (x.length : Int) < (x.length : Int) by omega), cond_false])
  rw [show (((0 : Nat) : Int)) = 0 from rfl, walk_find (fun u => u.2.1 == id) (fun u => Sum.inr (((), true), (u, ())))] at h
  refine (bind_of h).trans ?_
  cases x.find? (fun u => u.2.1 == id) <;> rfl

/-! ### The journal's -/
section
variable {m : JnE} {x : List TxE}
theorem JR.mem (h : JR m x) {k : Int} (hk : k ∈ keysM m) : gA txZ m k ∈ x := by
  rw [← h.vals]
  exact List.mem_map.2 ⟨k, (mem_sortM m k).2 hk, rfl⟩
theorem get_val (h : JR m x) (id : Int) (hs : ∀ t ∈ x, t.2.2.2.2.2.1.length ≤ 20) :
    ∃ u : (Int × Int × Int × Bool × Bool × Unit × Int × Int × Unit) × Bool × Unit, ∃ d : List OpE, journal_Journal_Get () id ((), ()) m = some (u, (((), ()), (m, (d, ())))) ∧ ((u.1.1, (u.1.2.1, (u.1.2.2.1, (u.1.2.2.2.1, (u.1.2.2.2.2.1, (d, u.1.2.2.2.2.2.2)))))), (u.2.1, ())) = foundT (x.find? fun t => t.1 == id) := by
  unfold journal_Journal_Get
  rw [has_hA, hasM_val, h.find]
  by_cases c : id ∈ keysM m
  · rw [if_pos c, dec_t c]
    have hd := hs _ (h.mem c)
    have ha : journal_apart_v2 (getM (.int .u32) kTxn m id) = some (journal_apart_v2.mk (gA txZ m id)) := by
      rw [show (getM (.int .u32) kTxn m id : El kTxn) = gA txZ m id from get_gA m id]
      show (bif Nat.ble (gA txZ m id).2.2.2.2.2.1.length 4294967296 then some _ else none) = _
      rw [Nat.ble_eq_true_of_le (by omega)]; rfl
    rw [ha]
    exact ⟨_, _, rfl, rfl⟩
  · rw [if_neg c, dec_f c]
    exact ⟨_, _, rfl, rfl⟩
theorem all_val (h : JR m x) (hl : x.length ≤ 12) (hs : ∀ t ∈ x, t.2.2.2.2.2.1.length ≤ 20) : journal_Journal_All () ((), ()) m = some (x, jOf m) := by
  have hm : m.length ≤ 12 := by rw [h.len]; exact hl
  have hj : jaG (.int .u32) kTxn (leOf cmp1) 12 (((), ()), (((), ()), (m, ()))) = some (((), ((), (sortM m, (((sortM m).length : Int), (0 : Int))))), (((), ()), (m, ()))) := by
    unfold jaG
    show (bif Nat.ble m.length 12 then _ else none) = _
    rw [Nat.ble_eq_true_of_le hm]; rfl
  have hsl : (sortM m).length ≤ 12 := by rw [sortM_len]; exact hm
  unfold journal_Journal_All
  refine (bind_of hj).trans ?_
  have hw := loop_walk (step := journal_Journal_All.l1) (sortM m) (fun i (a : List TxE) => (((), ((), (sortM m, (((sortM m).length : Int), (i : Int))))), (((), ()), (m, (a, ()))))) (fun _ k a => .inl (a ++ [gA txZ m k])) (fun a => ((), (((), ()), (m, (a, ()))))) (fun i a => a.length ≤ i) [] (by omega) (by simp) (fun i k a hx hi => by
    have hlt := get_lt hx
    have hk : k ∈ keysM m := (mem_sortM m k).1 (get_mem hx)
    have hd := hs _ (h.mem hk)
    refine ⟨?_, fun b hb => by cases hb; simp; omega⟩
    unfold journal_Journal_All.l1
    simp only [dec_t (show (i : Int) < ((sortM m).length : Int) by omega), cond_true]
    rw [nthK_get hx]
    have ha : journal_apart (getM (.int .u32) kTxn m k) = some (gA txZ m k) := by
      rw [show (getM (.int .u32) kTxn m k : El kTxn) = gA txZ m k from get_gA m k]
      exact apart_val _ (by omega)
    rw [ha, Option.bind_some, room_ok (by simp; omega), succ_i64 (by omega)]) (fun a _ => by
    unfold journal_Journal_All.l1
    simp only [dec_f (show ¬ ((sortM m).length : Int) < ((sortM m).length : Int) by omega), cond_false])
  rw [show (((0 : Nat) : Int)) = 0 from rfl, walk_foldl (fun (a : List TxE) (k : Int) => a ++ [gA txZ m k])] at hw
  have hf : ∀ (l : List Int) (a : List TxE), l.foldl (fun (a : List TxE) (k : Int) => a ++ [gA txZ m k]) a = a ++ l.map (gA txZ m) := by
    intro l
    induction l with
    | nil => intro a; simp
    | cons k l ih => intro a; rw [List.foldl_cons, ih]; simp
  rw [hf, h.vals] at hw
  exact (bind_of hw).trans rfl
theorem of_val (h : JR m x) (hl : x.length ≤ 12) (hs : ∀ t ∈ x, t.2.2.2.2.2.1.length ≤ 20) (id : Int) : journal_Journal_Of () id ((), ()) m = some (foundT (x.find? fun t => t.2.1 == id), jOf m) := by
  unfold journal_Journal_Of
  refine (bind_of (all_val h hl hs)).trans ?_
  have hw := loop_walk (step := journal_Journal_Of.l1) x (fun i (_ : Unit) => ((id, ((), (x, ((x.length : Int), (i : Int))))), (((), ()), (m, ((0, (0, (0, (false, (false, ((), (0, (0, ())))))))), ()))))) (fun _ u _ => if (u.2.1 == id) = true then .inr (.inr (((), true), (((), ()), (m, (u, ()))))) else .inl ()) (fun _ => .inl ((), (((), ()), (m, ((0, (0, (0, (false, (false, ((), (0, (0, ())))))))), ()))))) (fun _ _ => True) () (by omega) trivial (fun i y a hx _ => by
    have hlt := get_lt hx
    refine ⟨?_, fun _ _ => trivial⟩
    unfold journal_Journal_Of.l1
    simp only [dec_t (show (i : Int) < (x.length : Int) by omega), cond_true]
    rw [nthK_get hx, succ_i64 (by omega)]
    cases h : ((y.2.1 : Int) == id) <;> simp) (fun a _ => by
    unfold journal_Journal_Of.l1
    simp only [dec_f (show ¬ (x.length : Int) < (x.length : Int) by omega), cond_false])
  rw [show (((0 : Nat) : Int)) = 0 from rfl, walk_find (fun u => u.2.1 == id) (fun u => Sum.inr (((), true), (((), ()), (m, (u, ())))))] at hw
  refine (bind_of hw).trans ?_
  cases x.find? (fun u => u.2.1 == id) <;> rfl
end

/-! ### Which are the same -/
theorem eqOp_refl (o : OpE) : eqE kOp o o = true := by
  have : eqE kOp o o = (((o.1.1 == o.1.1) && ((o.1.2.1 == o.1.2.1) && ((o.1.2.2.1 == o.1.2.2.1) && true))) && ((o.2.1 == o.2.1) && true)) := rfl
  rw [this]; simp
def opsGo (y : List OpE) (i : Nat) (a : OpE) (_ : Unit) : Unit ⊕ (Unit ⊕ Bool) := match y[i]? with | some b => if eqE kOp a b = true then .inl () else .inr (.inr false) | none => .inl ()
def opsB (x y : List OpE) : Bool := bif (x.length : Int) != (y.length : Int) then false else match walkL (opsGo y) (fun _ => .inl ()) 0 x () with | .inl _ => true | .inr b => b
theorem refOps_val (x y : List OpE) (hl : x.length ≤ 1000) : pledgeref11_Same x y = some (opsB x y) := by
  unfold pledgeref11_Same opsB
  cases hc : ((x.length : Int) != (y.length : Int)) with
  | true => rfl
  | false =>
    have he : x.length = y.length := by simp at hc; omega
    have h := loop_walk (step := pledgeref11_Same.l1) x (fun i (_ : Unit) => (x, (y, (i : Int)))) (opsGo y) (fun _ => .inl ()) (fun _ _ => True) () (by omega) trivial (fun i a _ hx _ => by
      have hlt := get_lt hx
      have hy : y[i]? = some (y[i]'(by omega)) := List.getElem?_eq_getElem (by omega)
      generalize y[i]'(by omega) = b at hy
      refine ⟨?_, fun _ _ => trivial⟩
      unfold pledgeref11_Same.l1 opsGo
      simp only [dec_t (show (i : Int) < (x.length : Int) by omega), cond_true, hy]
      rw [nthK_get hx, nthK_get hy, succ_i64 (by omega)]
      cases eqE kOp a b <;> simp) (fun _ _ => by
      unfold pledgeref11_Same.l1
      simp only [dec_f (show ¬ (x.length : Int) < (x.length : Int) by omega), cond_false])
    rw [show (((0 : Nat) : Int)) = 0 from rfl] at h
    simp only [cond_false]
    refine (bind_of h).trans ?_
    cases walkL (opsGo y) (fun _ => Sum.inl ()) 0 x () <;> rfl
theorem eqOps_val (x y : List OpE) (hl : x.length ≤ 1000) : slices_Equal_api_Op_api_Op x y = some (opsB x y) := by
  unfold slices_Equal_api_Op_api_Op opsB
  cases hc : ((x.length : Int) != (y.length : Int)) with
  | true => rfl
  | false =>
    have he : x.length = y.length := by simp at hc; omega
    have h := loop_walk (step := slices_Equal_api_Op_api_Op.l1) x (fun i (_ : Unit) => (x, (y, ((x.length : Int), (i : Int))))) (opsGo y) (fun _ => .inl ()) (fun _ _ => True) () (by omega) trivial (fun i a _ hx _ => by
      have hlt := get_lt hx
      have hy : y[i]? = some (y[i]'(by omega)) := List.getElem?_eq_getElem (by omega)
      generalize y[i]'(by omega) = b at hy
      refine ⟨?_, fun _ _ => trivial⟩
      unfold slices_Equal_api_Op_api_Op.l1 opsGo
      simp only [dec_t (show (i : Int) < (x.length : Int) by omega), cond_true, hy]
      rw [nthK_get hx, nthK_get hy, succ_i64 (by omega)]
      cases eqE kOp a b <;> simp) (fun _ _ => by
      unfold slices_Equal_api_Op_api_Op.l1
      simp only [dec_f (show ¬ (x.length : Int) < (x.length : Int) by omega), cond_false])
    rw [show (((0 : Nat) : Int)) = 0 from rfl] at h
    simp only [cond_false]
    refine (bind_of h).trans ?_
    cases walkL (opsGo y) (fun _ => Sum.inl ()) 0 x () <;> rfl
theorem opsB_refl (x : List OpE) : opsB x x = true := by
  have h : ∀ (k : List OpE) (i : Nat), (∀ j a, k[j]? = some a → x[i + j]? = some a) → walkL (X := Unit ⊕ Bool) (opsGo x) (fun _ => .inl ()) i k () = .inl () := by
    intro k
    induction k with
    | nil => intro i _; rfl
    | cons a k ih =>
      intro i h
      rw [walkL]
      have h0 : x[i]? = some a := h 0 a rfl
      unfold opsGo
      simp only [h0, eqOp_refl, if_true]
      exact ih (i + 1) fun j b hb => by have := h (j + 1) b hb; rw [Nat.add_right_comm, Nat.add_assoc]; exact this
  unfold opsB
  rw [bne_self_eq_false, cond_false, h x 0 fun j a h => by rw [Nat.zero_add]; exact h]
def sameT (a b : TxE) : Bool := (a.1 == b.1) && ((a.2.1 == b.2.1) && ((a.2.2.1 == b.2.2.1) && ((a.2.2.2.1 == b.2.2.2.1) && ((a.2.2.2.2.1 == b.2.2.2.2.1) && (opsB a.2.2.2.2.2.1 b.2.2.2.2.2.1 && ((a.2.2.2.2.2.2.1 == b.2.2.2.2.2.2.1) && (a.2.2.2.2.2.2.2.1 == b.2.2.2.2.2.2.2.1)))))))
theorem refSame_val (a b : TxE) (h : a.2.2.2.2.2.1.length ≤ 1000) : pledgeref19_Same a b = some (sameT a b) := by
  unfold pledgeref19_Same sameT
  rw [refOps_val _ _ h]
  cases (a.1 == b.1) <;> cases (a.2.1 == b.2.1) <;> cases (a.2.2.1 == b.2.2.1) <;> cases (a.2.2.2.1 == b.2.2.2.1) <;> cases (a.2.2.2.2.1 == b.2.2.2.2.1) <;> cases opsB a.2.2.2.2.2.1 b.2.2.2.2.2.1 <;> cases (a.2.2.2.2.2.2.1 == b.2.2.2.2.2.2.1) <;> rfl
theorem same_val (a b : TxE) (h : a.2.2.2.2.2.1.length ≤ 1000) : journal_Same a b = some (sameT a b) := by
  unfold journal_Same sameT
  rw [eqOps_val _ _ h]
  cases (a.1 == b.1) <;> cases (a.2.1 == b.2.1) <;> cases (a.2.2.1 == b.2.2.1) <;> cases (a.2.2.2.1 == b.2.2.2.1) <;> cases (a.2.2.2.2.1 == b.2.2.2.2.1) <;> cases opsB a.2.2.2.2.2.1 b.2.2.2.2.2.1 <;> cases (a.2.2.2.2.2.2.1 == b.2.2.2.2.2.2.1) <;> rfl
theorem sameT_refl (a : TxE) : sameT a a = true := by
  unfold sameT
  rw [opsB_refl]; simp

/-! ### How one is undone -/
theorem last_eq (t : TxE) (hl : t.2.2.2.2.2.1.length ≤ 1000) (hd : ∀ o ∈ t.2.2.2.2.2.1, -9223372036854775808 ≤ o.2.1) : ∃ r, journal_Last t = some r ∧ pledgeref19_Last t = some r := by
  unfold journal_Last pledgeref19_Last
  by_cases h0 : t.2.2.2.2.2.1.length = 0
  · refine ⟨(((0, (0, (0, ()))), (0, ())), (false, ())), ?_, ?_⟩ <;> rw [h0] <;> rfl
  · have hp : IntKind.i64.wrap ((t.2.2.2.2.2.1.length : Int) - 1) = ((t.2.2.2.2.2.1.length - 1 : Nat) : Int) := by rw [wrap_i64 (by omega) (by omega)]; omega
    have hg : t.2.2.2.2.2.1[t.2.2.2.2.2.1.length - 1]? = some (t.2.2.2.2.2.1[t.2.2.2.2.2.1.length - 1]'(by omega)) := List.getElem?_eq_getElem (by omega)
    generalize t.2.2.2.2.2.1[t.2.2.2.2.2.1.length - 1]'(by omega) = o at hg
    have ho := hd o (get_mem hg)
    rw [show (((t.2.2.2.2.2.1.length : Int)) == 0) = false by simp; exact fun e => h0 (by rw [e]; rfl), cond_false, cond_false, hp, nthK_get hg, nthK_get hg, nthK_get hg, nthK_get hg, nthK_get hg]
    by_cases c : o.2.1 = -9223372036854775808
    · rw [show (o.2.1 == -9223372036854775808) = true by simpa using c, dec_t (show o.2.1 < -9223372036854775807 by omega)]
      exact ⟨_, rfl, rfl⟩
    · rw [show (o.2.1 == -9223372036854775808) = false by simpa using c, dec_f (show ¬ o.2.1 < -9223372036854775807 by omega)]
      exact ⟨_, rfl, rfl⟩

/-! ### Few -/
def fewGo (t : TxE) : Unit ⊕ (Unit ⊕ Bool) := if t.2.2.2.2.2.1.length > 20 then .inr (.inr false) else if t.2.2.2.2.2.2.2.1 < 0 then .inr (.inr false) else if t.2.2.2.2.2.2.2.1 > 1048576 then .inr (.inr false) else .inl ()
theorem few_walk : ∀ (l : List TxE) (i : Nat), walkL (X := Unit ⊕ Bool) (fun _ t (_ : Unit) => fewGo t) (fun _ => .inl ()) i l () = .inr false ∨ (walkL (X := Unit ⊕ Bool) (fun _ t (_ : Unit) => fewGo t) (fun _ => .inl ()) i l () = .inl () ∧ ∀ t ∈ l, t.2.2.2.2.2.1.length ≤ 20)
  | [], i => .inr ⟨rfl, fun t ht => by cases ht⟩
  | t :: l, i => by
    rw [walkL]
    by_cases c1 : t.2.2.2.2.2.1.length > 20
    · left; unfold fewGo; rw [if_pos c1]
    · by_cases c2 : t.2.2.2.2.2.2.2.1 < 0
      · left; unfold fewGo; rw [if_neg c1, if_pos c2]
      · by_cases c3 : t.2.2.2.2.2.2.2.1 > 1048576
        · left; unfold fewGo; rw [if_neg c1, if_neg c2, if_pos c3]
        · have e : fewGo t = .inl () := by unfold fewGo; rw [if_neg c1, if_neg c2, if_neg c3]
          rw [e]
          rcases few_walk l (i + 1) with h | ⟨h, g⟩
          · exact .inl h
          · refine .inr ⟨h, fun u hu => ?_⟩
            rcases List.mem_cons.1 hu with q | q
            · rw [q]; omega
            · exact g u q
theorem few19 (l : List TxE) : pledgelaw19_Few l = some 0 ∨ (pledgelaw19_Few l = some 1 ∧ l.length ≤ 12 ∧ ∀ t ∈ l, t.2.2.2.2.2.1.length ≤ 20) := by
  unfold pledgelaw19_Few pledgelaw19_isFew
  by_cases h12 : (l.length : Int) > 12
  · rw [dec_t h12]; exact .inl rfl
  rw [dec_f h12]
  have h := loop_walk (step := pledgelaw19_isFew.l1) l (fun i (_ : Unit) => (l, (i : Int))) (fun _ t _ => fewGo t) (fun _ => .inl ()) (fun _ _ => True) () (by omega) trivial (fun i t _ hx _ => by
    have hlt := get_lt hx
    refine ⟨?_, fun _ _ => trivial⟩
    unfold pledgelaw19_isFew.l1 fewGo
    simp only [dec_t (show (i : Int) < (l.length : Int) by omega), cond_true]
    rw [nthK_get hx, nthK_get hx, nthK_get hx, succ_i64 (by omega)]
    by_cases c1 : t.2.2.2.2.2.1.length > 20
    · rw [dec_t (show (t.2.2.2.2.2.1.length : Int) > 20 by omega), if_pos c1]; rfl
    · rw [dec_f (show ¬ (t.2.2.2.2.2.1.length : Int) > 20 by omega), if_neg c1]
      by_cases c2 : t.2.2.2.2.2.2.2.1 < 0
      · rw [dec_t c2, if_pos c2]; rfl
      · rw [dec_f c2, if_neg c2]
        by_cases c3 : t.2.2.2.2.2.2.2.1 > 1048576
        · rw [dec_t c3, if_pos c3]; rfl
        · rw [dec_f c3, if_neg c3]; rfl) (fun _ _ => by
    unfold pledgelaw19_isFew.l1
    simp only [dec_f (show ¬ (l.length : Int) < (l.length : Int) by omega), cond_false])
  rw [show (((0 : Nat) : Int)) = 0 from rfl] at h
  simp only [cond_false]
  rw [h]
  rcases few_walk l 0 with g | ⟨g, hs⟩
  · rw [g]; exact .inl rfl
  · rw [g]; exact .inr ⟨rfl, by omega, hs⟩

/-! ### The law -/
theorem listOf_small (l : List TxE) (hs : ∀ t ∈ l, t.2.2.2.2.2.1.length ≤ 20) : ∀ t ∈ listOf l, t.2.2.2.2.2.1.length ≤ 20 := by
  have : ∀ (k a : List TxE), (∀ t ∈ k, t.2.2.2.2.2.1.length ≤ 20) → (∀ t ∈ a, t.2.2.2.2.2.1.length ≤ 20) → ∀ t ∈ k.foldl (fun x t => insT t x) a, t.2.2.2.2.2.1.length ≤ 20 := by
    intro k
    induction k with
    | nil => intro a _ h; exact h
    | cons u k ih =>
      intro a h1 h2
      refine ih _ (fun t ht => h1 t (List.mem_cons_of_mem _ ht)) fun t ht => ?_
      rcases insT_mem u a t ht with e | e
      · rw [e]; exact h1 u List.mem_cons_self
      · exact h2 t e
  exact this l [] hs fun t ht => by cases ht
theorem found_small {x : List TxE} (hs : ∀ t ∈ x, t.2.2.2.2.2.1.length ≤ 20) (p : TxE → Bool) : (foundT (x.find? p)).1.2.2.2.2.2.1.length ≤ 1000 := by
  cases h : x.find? p with
  | none => show 0 ≤ 1000; omega
  | some t => have := hs t (List.mem_of_find?_eq_some h); show t.2.2.2.2.2.1.length ≤ 1000; omega
theorem asks_loop (l : List TxE) (hl : l.length ≤ 12) (hs : ∀ t ∈ l, t.2.2.2.2.2.1.length ≤ 20) (hd : ∀ t ∈ l, ∀ o ∈ t.2.2.2.2.2.1, -9223372036854775808 ≤ o.2.1) : iterL pledgelaw19_JournalAsks.l1 loopN (l, 0) = some (.inl ()) := by
  have h := loop_walk (step := pledgelaw19_JournalAsks.l1) l (fun i (_ : Unit) => (l, (i : Int))) (fun _ _ _ => .inl ()) (fun _ => .inl ()) (fun _ _ => True) () (by omega) trivial (fun i t _ hx _ => by
    have hlt := get_lt hx
    have h1 := hs t (get_mem hx)
    obtain ⟨r, g1, g2⟩ := last_eq t (by omega) (hd t (get_mem hx))
    have h0 : l[0]? = some (l[0]'(by omega)) := List.getElem?_eq_getElem (by omega)
    generalize l[0]'(by omega) = u at h0
    refine ⟨?_, fun _ _ => trivial⟩
    unfold pledgelaw19_JournalAsks.l1
    simp only [dec_t (show (i : Int) < (l.length : Int) by omega), cond_true]
    rw [nthK_get hx, g1, Option.bind_some, nthK_get hx, g2, Option.bind_some, eqOp_refl]
    simp only [Bool.not_true, cond_false, beq_self_eq_true]
    rw [nthK_get hx, nthK_get hx, same_val t t (by omega), Option.bind_some, sameT_refl]
    simp only [Bool.not_true, cond_false]
    rw [nthK_get hx, nthK_get0 h0, same_val t u (by omega), Option.bind_some, nthK_get hx, nthK_get0 h0, refSame_val t u (by omega), Option.bind_some]
    simp only [beq_self_eq_true, Bool.not_true, cond_false]
    rw [succ_i64 (by omega)]) (fun _ _ => by
    unfold pledgelaw19_JournalAsks.l1
    simp only [dec_f (show ¬ (l.length : Int) < (l.length : Int) by omega), cond_false])
  rw [show (((0 : Nat) : Int)) = 0 from rfl] at h
  rw [h]
  have : ∀ (k : List TxE) (i : Nat), walkL (X := Unit ⊕ Bool) (fun _ (_ : TxE) (_ : Unit) => .inl ()) (fun _ => .inl ()) i k () = .inl () := by
    intro k
    induction k with
    | nil => intro i; rfl
    | cons a k ih => intro i; rw [walkL]; exact ih (i + 1)
  rw [this]
theorem asks (l : List TxE) (id saga : Int) (hd : ∀ t ∈ l, ∀ o ∈ t.2.2.2.2.2.1, -9223372036854775808 ≤ o.2.1) : pledgelaw19_JournalAsks l id saga = some true := by
  unfold pledgelaw19_JournalAsks
  rcases few19 l with e | ⟨e, hl, hs⟩
  · exact (bind_of e).trans (by rw [works19]; rfl)
  obtain ⟨r1, r2, r3⟩ := refNew_val l (by omega)
  have hJ := JR.new l
  have hsm := listOf_small l hs
  obtain ⟨u, d, hg, hu⟩ := get_val hJ id hsm
  refine (bind_of e).trans ?_
  show ((journal_New l).bind _) = _
  refine (bind_of (newJ_val l (by omega) hs)).trans ?_
  refine (bind_of r1).trans ?_
  refine (bind_of hg).trans ?_
  refine (bind_of (refGet_val _ id (by omega))).trans ?_
  refine (bind_of (of_val hJ (by omega) hsm saga)).trans ?_
  refine (bind_of (refOf_val _ saga (by omega))).trans ?_
  obtain ⟨F, hF⟩ : ∃ F, F = foundT ((listOf l).find? fun t => t.1 == id) := ⟨_, rfl⟩
  obtain ⟨G, hG⟩ : ∃ G, G = foundT ((listOf l).find? fun t => t.2.1 == saga) := ⟨_, rfl⟩
  have f1 : F.1.2.2.2.2.2.1.length ≤ 1000 := by rw [hF]; exact found_small hsm _
  have g1 : G.1.2.2.2.2.2.1.length ≤ 1000 := by rw [hG]; exact found_small hsm _
  rw [← hF] at hu
  rw [← hF, ← hG]
  have hu1 : (u.1.1, (u.1.2.1, (u.1.2.2.1, (u.1.2.2.2.1, (u.1.2.2.2.2.1, (d, u.1.2.2.2.2.2.2)))))) = F.1 := congrArg (fun z => z.1) hu
  have hu2 : u.2.1 = F.2.1 := congrArg (fun z => z.2.1) hu
  show ((pledgeref19_Same (u.1.1, (u.1.2.1, (u.1.2.2.1, (u.1.2.2.2.1, (u.1.2.2.2.2.1, (d, u.1.2.2.2.2.2.2)))))) F.1).bind fun r9 => bif !r9 then some false else bif !(u.2.1 == F.2.1) then some false else (pledgeref19_Same G.1 G.1).bind fun r10 => bif !r10 then some false else bif !(G.2.1 == G.2.1) then some false else _) = _
  rw [hu1, hu2, refSame_val _ _ f1, sameT_refl, Option.bind_some, refSame_val _ _ g1, sameT_refl, Option.bind_some]
  simp only [beq_self_eq_true, Bool.not_true, cond_false]
  rw [asks_loop l hl hs hd, works19]; rfl
theorem JournalAsks (x : El (.slice kTxn)) (id saga : Int) (hx : WfE (.slice kTxn) x) (h1 : WfE (.int .u32) id) (h2 : WfE (.int .u32) saga) : pledgelaw19_JournalAsks x id saga = some true :=
  asks x id saga fun t ht o ho => (wf_i64 ((hx.2 t ht).2.2.2.2.2.1.2 o ho).2.1).1
end Go.Proofs.Pure
