/- Of nil there is nothing. -/
import Derived.Test.YtlnnghmfncjbiaaFnTbn
import Derived.Test.YtlnnghmfncjbiaaPLib
import Derived.Test.YtlnnghmfncjbiaaDOpen
set_option linter.unusedVariables false
set_option maxRecDepth 100000
set_option linter.unusedSimpArgs false

/- Keys, in order. -/
namespace Go.Proofs.Pure
open Go.Proofs.D Go.Proofs.F

abbrev KE := Int × Int × Int × Unit
abbrev OpE := KE × Int × Unit

theorem eqK_refl (a : KE) : eqE kKey a a = true := by
  show ((a.1 == a.1) && ((a.2.1 == a.2.1) && ((a.2.2.1 == a.2.2.1) && true))) = true
  simp
theorem eqK_iff {a b : KE} : eqE kKey a b = true ↔ a = b := ⟨fun h => eqE_eq (c := kKey) rfl h, fun h => by rw [h]; exact eqK_refl b⟩
theorem eqK_ne {a b : KE} (h : a ≠ b) : eqE kKey a b = false := by
  cases hq : eqE kKey a b with
  | false => rfl
  | true => exact absurd (eqK_iff.1 hq) h
theorem eqO_iff {a b : OpE} : eqE kOp a b = true ↔ a = b := ⟨fun h => eqE_eq (c := kOp) rfl h, fun h => by
  rw [h]
  show (eqE kKey b.1 b.1 && ((b.2.1 == b.2.1) && true)) = true
  rw [eqK_refl]; simp⟩

theorem lt_asymm {a b : KE} (h : ltOf cmp3 a b = true) : ltOf cmp3 b a = false := by
  cases hq : ltOf cmp3 b a with
  | false => rfl
  | true => have := swo3.trans a b a h hq; rw [swo3.irrefl] at this; cases this
theorem sorted_nodup {ks : List KE} (h : ks.Pairwise fun a b => ltOf cmp3 a b = true) : ks.Nodup := h.imp fun {a b} q e => by
  subst e; rw [swo3.irrefl] at q; cases q
theorem sorted_unique {ks ks' : List KE} (h : ks.Pairwise fun a b => ltOf cmp3 a b = true) (h' : ks'.Pairwise fun a b => ltOf cmp3 a b = true) (hm : ∀ k, k ∈ ks ↔ k ∈ ks') : ks = ks' := by
  refine List.Perm.eq_of_pairwise (le := fun a b => ltOf cmp3 a b = true) (fun a b _ _ h1 h2 => ?_) h h' ((List.perm_ext_iff_of_nodup (sorted_nodup h) (sorted_nodup h')).2 hm)
  rw [lt_asymm h1] at h2; cases h2
end Go.Proofs.Pure

/- Rows in order, and the map that has them. -/
namespace Go.Proofs.Pure
open Go.Proofs.D Go.Proofs.F

theorem walk_foldl {α A X : Type} (g : A → α → A) (fin : A → X) : ∀ (l : List α) (i : Nat) (acc : A), walkL (fun _ x a => .inl (g a x)) fin i l acc = fin (l.foldl g acc)
  | [], i, acc => rfl
  | x :: l, i, acc => by
    rw [walkL]
    exact walk_foldl g fin l (i + 1) (g acc x)
theorem eqK_dec (a b : KE) : eqE kKey a b = decide (a = b) := by rw [Bool.eq_iff_iff, decide_eq_true_iff]; exact eqK_iff
/-- Keys that are each there once, sorted, rise. -/
theorem sort_rises {ks : List KE} (h1 : ks.Nodup) : (ks.mergeSort (leOf cmp3)).Pairwise fun a b => ltOf cmp3 a b = true := by
  have hp := List.mergeSort_perm ks (leOf cmp3)
  have hn := hp.nodup_iff.2 h1
  have hs : (ks.mergeSort (leOf cmp3)).Pairwise fun a b => leOf cmp3 a b = true := List.pairwise_mergeSort (fun a b c q1 q2 => by
    unfold leOf at *
    simp only [Bool.not_eq_true'] at *
    exact swo3.ntrans c b a q2 q1) (fun a b => by
    unfold leOf
    cases q1 : ltOf cmp3 b a with
    | false => rfl
    | true => rw [lt_asymm q1]; rfl) _
  refine (hs.and hn).imp fun {a b} q => ?_
  obtain ⟨q1, q2⟩ := q
  unfold leOf at q1
  simp only [Bool.not_eq_true'] at q1
  cases hq : ltOf cmp3 a b with
  | true => rfl
  | false => exact absurd (tot3 a b hq q1) q2

section
variable {α : Type} {z : α}
abbrev MV (α : Type) := List (KE × α)
abbrev RV (α : Type) := List (KE × α × Unit)
def gA (z : α) : MV α → KE → α
  | [], _ => z
  | e :: r, k => if k = e.1 then e.2 else gA z r k
def hA : MV α → KE → Bool
  | [], _ => false
  | e :: r, k => decide (k = e.1) || hA r k
def pA : MV α → KE → α → MV α
  | [], k, v => [(k, v)]
  | e :: r, k, v => if k = e.1 then (k, v) :: r else e :: pA r k v
def dA : MV α → KE → MV α
  | [], _ => []
  | e :: r, k => if k = e.1 then r else e :: dA r k
def keysM (m : MV α) : List KE := m.map fun p => p.1
def sortM (m : MV α) : List KE := (keysM m).mergeSort (leOf cmp3)
def rowsM (z : α) (m : MV α) : RV α := (sortM m).map fun k => (k, (gA z m k, ()))
def SortR (l : RV α) : Prop := l.Pairwise fun a b => ltOf cmp3 a.1 b.1 = true

theorem hasM_val (m : MV α) (k : KE) : hA m k = decide (k ∈ keysM m) := by
  induction m with
  | nil => rfl
  | cons e r ih =>
    show (decide (k = e.1) || hA r k) = decide (k ∈ e.1 :: keysM r)
    rw [ih, Bool.eq_iff_iff]
    simp
theorem getM_cons (e : KE × α) (r : MV α) (k : KE) : gA z (e :: r) k = if k = e.1 then e.2 else gA z r k := rfl
theorem putM_cons (e : KE × α) (r : MV α) (k : KE) (v : α) : pA (e :: r) k v = if k = e.1 then (k, v) :: r else e :: pA r k v := rfl
theorem delM_cons (e : KE × α) (r : MV α) (k : KE) : dA (e :: r) k = if k = e.1 then r else e :: dA r k := rfl
theorem getM_put (m : MV α) (k k' : KE) (v : α) : gA z (pA m k v) k' = if k' = k then v else gA z m k' := by
  induction m with
  | nil =>
    rfl
  | cons e r ih =>
    rw [putM_cons]
    by_cases h : k = e.1
    · rw [if_pos h, getM_cons, getM_cons]
      by_cases h2 : k' = k
      · rw [if_pos h2, if_pos h2]
      · rw [if_neg h2, if_neg h2, if_neg (fun q => h2 (q.trans h.symm))]
    · rw [if_neg h, getM_cons, getM_cons, ih]
      by_cases h2 : k' = e.1
      · rw [if_pos h2, if_pos h2, if_neg (fun q => h (q.symm.trans h2))]
      · rw [if_neg h2, if_neg h2]
theorem keys_put (m : MV α) (k : KE) (v : α) : keysM (pA m k v) = if k ∈ keysM m then keysM m else keysM m ++ [k] := by
  induction m with
  | nil => rw [if_neg (by simp [keysM])]; rfl
  | cons e r ih =>
    rw [putM_cons]
    by_cases h : k = e.1
    · rw [if_pos h, if_pos (by simp [keysM, h])]
      show k :: keysM r = e.1 :: keysM r
      rw [h]
    · rw [if_neg h]
      show e.1 :: keysM (pA r k v) = if k ∈ e.1 :: keysM r then e.1 :: keysM r else e.1 :: keysM r ++ [k]
      rw [ih]
      by_cases h2 : k ∈ keysM r
      · rw [if_pos h2, if_pos (List.mem_cons_of_mem _ h2)]
      · rw [if_neg h2, if_neg (fun q => (List.mem_cons.1 q).elim h h2)]; rfl
theorem mem_put (m : MV α) (k x : KE) (v : α) : x ∈ keysM (pA m k v) ↔ x = k ∨ x ∈ keysM m := by
  rw [keys_put]
  by_cases h : k ∈ keysM m
  · rw [if_pos h]
    exact ⟨.inr, fun q => q.elim (fun e => e ▸ h) id⟩
  · rw [if_neg h, List.mem_append, List.mem_singleton]
    exact ⟨Or.symm, Or.symm⟩
theorem nodup_put {m : MV α} (h : (keysM m).Nodup) (k : KE) (v : α) : (keysM (pA m k v)).Nodup := by
  rw [keys_put]
  by_cases q : k ∈ keysM m
  · rw [if_pos q]; exact h
  · rw [if_neg q]
    exact List.nodup_append.2 ⟨h, by simp, fun a ha b hb e => q (by rw [List.mem_singleton.1 hb] at e; exact e ▸ ha)⟩
theorem len_keys (m : MV α) : (keysM m).length = m.length := by unfold keysM; rw [List.length_map]
theorem len_put (m : MV α) (k : KE) (v : α) : (pA m k v).length ≤ m.length + 1 := by
  rw [← len_keys, keys_put, ← len_keys]
  split
  · omega
  · simp
theorem keys_del (m : MV α) (k : KE) : keysM (dA m k) = (keysM m).erase k := by
  induction m with
  | nil => rfl
  | cons e r ih =>
    rw [delM_cons]
    show _ = (e.1 :: keysM r).erase k
    by_cases h : k = e.1
    · rw [if_pos h, h, List.erase_cons_head]
    · rw [if_neg h, List.erase_cons_tail (by simpa using fun q : e.1 = k => h q.symm)]
      show e.1 :: keysM (dA r k) = _
      rw [ih]
theorem getM_del (m : MV α) (k k' : KE) (hne : k' ≠ k) : gA z (dA m k) k' = gA z m k' := by
  induction m with
  | nil => rfl
  | cons e r ih =>
    rw [delM_cons, getM_cons]
    by_cases h : k = e.1
    · rw [if_pos h, if_neg (fun q => hne (q.trans h.symm))]
    · rw [if_neg h, getM_cons, ih]
theorem getM_none (m : MV α) (k : KE) (h : k ∉ keysM m) : gA z m k = z := by
  induction m with
  | nil => rfl
  | cons e r ih =>
    rw [getM_cons, if_neg (fun q => h (by rw [q]; exact List.mem_cons_self))]
    exact ih fun q => h (List.mem_cons_of_mem _ q)

theorem sortM_len (m : MV α) : (sortM m).length = m.length := by
  unfold sortM keysM
  rw [List.length_mergeSort, List.length_map]
theorem mem_sortM (m : MV α) (k : KE) : k ∈ sortM m ↔ k ∈ keysM m := (List.mergeSort_perm _ _).mem_iff
theorem rows_len (m : MV α) : (rowsM z m).length = m.length := by unfold rowsM; rw [List.length_map, sortM_len]
theorem rows_sorted {m : MV α} (h : (keysM m).Nodup) : SortR (rowsM z m) := by
  unfold SortR rowsM
  rw [List.pairwise_map]
  exact sort_rises h
theorem mem_rows {m : MV α} (x : KE × α × Unit) : x ∈ rowsM z m ↔ x.1 ∈ keysM m ∧ x.2.1 = gA z m x.1 := by
  unfold rowsM
  rw [List.mem_map]
  constructor
  · rintro ⟨k, hk, rfl⟩
    exact ⟨(mem_sortM m k).1 hk, rfl⟩
  · rintro ⟨h1, h2⟩
    obtain ⟨x1, x2, u⟩ := x
    have h2 : x2 = gA z m x1 := h2
    subst h2
    exact ⟨x1, (mem_sortM m _).2 h1, rfl⟩
theorem SortR.nodup {l : RV α} (h : SortR l) : l.Nodup := h.imp fun {a b} q e => by
  subst e; rw [swo3.irrefl] at q; cases q
theorem rows_unique {l l' : RV α} (h : SortR l) (h' : SortR l') (hm : ∀ x, x ∈ l ↔ x ∈ l') : l = l' := by
  have n1 : l.Nodup := SortR.nodup h
  have n2 : l'.Nodup := SortR.nodup h'
  have hp : l.Perm l' := (List.perm_ext_iff_of_nodup n1 n2).2 hm
  have h1 : l.Pairwise fun a b => ltOf cmp3 a.1 b.1 = true := h
  have h2 : l'.Pairwise fun a b => ltOf cmp3 a.1 b.1 = true := h'
  have hany : ∀ a b : KE × α × Unit, a ∈ l → b ∈ l' → ltOf cmp3 a.1 b.1 = true → ltOf cmp3 b.1 a.1 = true → a = b := fun a b _ _ q1 q2 => by
    rw [lt_asymm q1] at q2; cases q2
  exact List.Perm.eq_of_pairwise hany h1 h2 hp
theorem SortR.head {x : KE × α × Unit} {l : RV α} (h : SortR (x :: l)) : ∀ y ∈ l, ltOf cmp3 x.1 y.1 = true := (List.pairwise_cons.1 h).1
theorem SortR.tail {x : KE × α × Unit} {l : RV α} (h : SortR (x :: l)) : SortR l := (List.pairwise_cons.1 h).2

/-- A row more, at its place. -/
def insS (k : KE) (v : α) : RV α → RV α
  | [] => [(k, (v, ()))]
  | x :: l => if ltOf cmp3 x.1 k = true then x :: insS k v l else if x.1 = k then (k, (v, ())) :: l else (k, (v, ())) :: x :: l
theorem insS_mem (k : KE) (v : α) : ∀ (l : RV α), SortR l → ∀ x, x ∈ insS k v l ↔ x = (k, (v, ())) ∨ (x ∈ l ∧ x.1 ≠ k)
  | [], _, x => by simp [insS]
  | e :: l, h, x => by
    rw [insS]
    by_cases h1 : ltOf cmp3 e.1 k = true
    · have hne : e.1 ≠ k := fun q => by rw [q, swo3.irrefl] at h1; cases h1
      rw [if_pos h1, List.mem_cons, insS_mem k v l h.tail, List.mem_cons]
      constructor
      · rintro (q | q | ⟨q1, q2⟩)
        · exact .inr ⟨.inl q, by rw [q]; exact hne⟩
        · exact .inl q
        · exact .inr ⟨.inr q1, q2⟩
      · rintro (q | ⟨q1 | q1, q2⟩)
        · exact .inr (.inl q)
        · exact .inl q1
        · exact .inr (.inr ⟨q1, q2⟩)
    · rw [if_neg h1]
      by_cases h2 : e.1 = k
      · rw [if_pos h2, List.mem_cons, List.mem_cons]
        constructor
        · rintro (q | q)
          · exact .inl q
          · refine .inr ⟨.inr q, fun e' => ?_⟩
            have := h.head x q
            rw [h2, e', swo3.irrefl] at this; cases this
        · rintro (q | ⟨q1 | q1, q2⟩)
          · exact .inl q
          · exact absurd (by rw [q1]; exact h2) q2
          · exact .inr q1
      · rw [if_neg h2, List.mem_cons, List.mem_cons]
        have hlt : ltOf cmp3 k e.1 = true := by
          cases hq : ltOf cmp3 k e.1 with
          | true => rfl
          | false => exact absurd (tot3 e.1 k (by simpa using h1) hq) h2
        constructor
        · rintro (q | q | q)
          · exact .inl q
          · exact .inr ⟨.inl q, by rw [q]; exact h2⟩
          · refine .inr ⟨.inr q, fun e' => ?_⟩
            have := swo3.trans _ _ _ hlt (h.head x q)
            rw [e', swo3.irrefl] at this; cases this
        · rintro (q | ⟨q1 | q1, q2⟩)
          · exact .inl q
          · exact .inr (.inl q1)
          · exact .inr (.inr q1)
theorem insS_sorted (k : KE) (v : α) : ∀ (l : RV α), SortR l → SortR (insS k v l)
  | [], _ => List.pairwise_singleton _ _
  | e :: l, h => by
    rw [insS]
    by_cases h1 : ltOf cmp3 e.1 k = true
    · rw [if_pos h1]
      refine List.pairwise_cons.2 ⟨fun y hy => ?_, insS_sorted k v l h.tail⟩
      rcases (insS_mem k v l h.tail y).1 hy with q | ⟨q, _⟩
      · rw [q]; exact h1
      · exact h.head y q
    · rw [if_neg h1]
      by_cases h2 : e.1 = k
      · rw [if_pos h2]
        exact List.pairwise_cons.2 ⟨fun y hy => by show ltOf cmp3 k y.1 = true; rw [← h2]; exact h.head y hy, h.tail⟩
      · rw [if_neg h2]
        have hlt : ltOf cmp3 k e.1 = true := by
          cases hq : ltOf cmp3 k e.1 with
          | true => rfl
          | false => exact absurd (tot3 e.1 k (by simpa using h1) hq) h2
        refine List.pairwise_cons.2 ⟨fun y hy => ?_, h⟩
        rcases List.mem_cons.1 hy with q | q
        · rw [q]; exact hlt
        · exact swo3.trans _ _ _ hlt (h.head y q)
theorem rows_put {m : MV α} (h : (keysM m).Nodup) (k : KE) (v : α) : rowsM z (pA m k v) = insS k v (rowsM z m) := by
  refine rows_unique (rows_sorted (nodup_put h k v)) (insS_sorted k v _ (rows_sorted h)) fun x => ?_
  rw [mem_rows, insS_mem k v _ (rows_sorted h), mem_put, getM_put, mem_rows]
  obtain ⟨x1, x2, -⟩ := x
  show (x1 = k ∨ x1 ∈ keysM m) ∧ x2 = (if x1 = k then v else gA z m x1) ↔ ((x1, (x2, ())) = (k, (v, ()))) ∨ (x1 ∈ keysM m ∧ x2 = gA z m x1) ∧ x1 ≠ k
  by_cases q : x1 = k
  · subst q
    rw [if_pos rfl]
    constructor
    · rintro ⟨-, e⟩; exact .inl (by rw [e])
    · rintro (e | ⟨-, e⟩)
      · cases e; exact ⟨.inl rfl, rfl⟩
      · exact absurd rfl e
  · rw [if_neg q]
    constructor
    · rintro ⟨e | e, e2⟩
      · exact absurd e q
      · exact .inr ⟨⟨e, e2⟩, q⟩
    · rintro (e | ⟨⟨e, e2⟩, -⟩)
      · cases e; exact absurd rfl q
      · exact ⟨.inr e, e2⟩
theorem rows_del {m : MV α} (h : (keysM m).Nodup) (k : KE) : rowsM z (dA m k) = (rowsM z m).filter fun x => decide (x.1 ≠ k) := by
  have hk := keys_del m k
  refine rows_unique (rows_sorted (by rw [hk]; exact h.erase k)) ((rows_sorted h).sublist List.filter_sublist) fun x => ?_
  rw [mem_rows, List.mem_filter, mem_rows, hk, h.mem_erase_iff, decide_eq_true_eq]
  constructor
  · rintro ⟨⟨a, b⟩, c⟩
    rw [getM_del m k x.1 a] at c
    exact ⟨⟨b, c⟩, a⟩
  · rintro ⟨⟨b, c⟩, a⟩
    rw [getM_del m k x.1 a]
    exact ⟨⟨a, b⟩, c⟩
/-- A key's row. -/
theorem rows_find {m : MV α} (k : KE) : (rowsM z m).find? (fun x => eqE kKey x.1 k) = if k ∈ keysM m then some (k, (gA z m k, ())) else none := by
  by_cases h : k ∈ keysM m
  · rw [if_pos h]
    have hm : (k, (gA z m k, ())) ∈ rowsM z m := (mem_rows _).2 ⟨h, rfl⟩
    cases hf : (rowsM z m).find? (fun x => eqE kKey x.1 k) with
    | none => have := (List.find?_eq_none.1 hf) _ hm; exact absurd (eqK_refl k) this
    | some y =>
      have h1 := List.find?_some hf
      have h2 := (mem_rows y).1 (List.mem_of_find?_eq_some hf)
      have h3 : y.1 = k := eqK_iff.1 h1
      obtain ⟨y1, y2, u⟩ := y
      have e3 : y1 = k := h3
      have h4 : y2 = gA z m y1 := h2.2
      rw [h4, e3]
  · rw [if_neg h, List.find?_eq_none]
    intro x hx hq
    have := ((mem_rows x).1 hx).1
    rw [eqK_iff.1 hq] at this
    exact h this
end
end Go.Proofs.Pure

/- Of nil there is nothing. -/
namespace Go.Proofs.Pure
open Go.Proofs.D Go.Proofs.F

theorem bind_of {α β : Type} {o : Option α} {x : α} {f : α → Option β} (h : o = some x) : o.bind f = f x := by rw [h]; rfl
abbrev TM := MV Int
theorem putM_eq : ∀ (m : TM) (k : KE) (v : Int), (putM kKey (.int .i64) m k v : TM) = pA m k v
  | [], _, _ => rfl
  | e :: r, k, v => by
    show (bif eqE kKey k e.1 then (k, v) :: r else e :: putM kKey (.int .i64) r k v : TM) = if k = e.1 then (k, v) :: r else e :: pA r k v
    rw [eqK_dec]
    by_cases h : k = e.1
    · rw [dec_t h, if_pos h]; rfl
    · rw [dec_f h, if_neg h]; exact congrArg (e :: ·) (putM_eq r k v)
theorem tput_val (m : TM) (k : KE) (v : Int) : table_Table_int64_Put () k v ((), ()) m = some ((), (((), ()), (pA m k v, ()))) := by
  rw [← putM_eq]; rfl
theorem tkeys_val (m : TM) (h : m.length ≤ 100000) : table_Table_int64_Keys m = some (sortM m, (((), ()), (m, ()))) := by
  show (bif Nat.ble m.length 4294967296 then some (sortM m, (((), ()), (m, ()))) else none) = _
  rw [Nat.ble_eq_true_of_le (by omega)]; rfl
theorem works05 : pledgelaw05_works = some true := by
  have hs : sortM [(((4, (1, (0, ()))) : KE), (5 : Int)), ((1, (0, (0, ()))), 6)] = [(1, (0, (0, ()))), (4, (1, (0, ())))] := by
    refine sorted_unique (sort_rises (by decide)) ?_ fun k => ?_
    · refine List.pairwise_cons.2 ⟨fun x hx => ?_, List.pairwise_singleton _ _⟩
      rw [List.mem_singleton.1 hx]; rfl
    · unfold sortM
      rw [(List.mergeSort_perm _ _).mem_iff]
      show k ∈ [((4, (1, (0, ()))) : KE), (1, (0, (0, ())))] ↔ _
      simp [or_comm]
  have hk := tkeys_val [((4, (1, (0, ()))), 5), ((1, (0, (0, ()))), 6)] (by simp)
  rw [hs] at hk
  have e1 : table_New_int64 = some ((), (((), ()), (([] : TM), ()))) := rfl
  have e2 := tput_val [] (4, (1, (0, ()))) 5
  have e3 := tput_val (pA [] (4, (1, (0, ()))) 5) (1, (0, (0, ()))) 6
  have hm : (pA (pA [] (4, (1, (0, ()))) 5) (1, (0, (0, ()))) 6 : TM) = [((4, (1, (0, ()))), 5), ((1, (0, (0, ()))), 6)] := by decide
  rw [hm] at e3
  refine (bind_of (f := _) e1).trans ?_
  refine (bind_of (f := _) e2).trans ?_
  refine (bind_of (f := _) e3).trans ?_
  refine (bind_of (f := _) hk).trans ?_
  rfl
theorem TableNil (x0 : El kKey) (h0 : WfE kKey x0) : pledgelaw05_TableNil x0 = some true := works05
end Go.Proofs.Pure
