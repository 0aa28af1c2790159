/- The document's answers for layer 11. -/
import Derived.Test.YtfpjeianlfhmnaaNet
import Derived.Test.YtfpjeianlfhmnaaSumRef
set_option linter.unusedVariables false
namespace Go.Proofs.Pure
open Go.Proofs.D Go.Proofs.F

theorem walk_foldl {α A X : Type} (g : A → α → A) (fin : A → X) : ∀ (l : List α) (i : Nat) (acc : A), walkL (fun _ x a => .inl (g a x)) fin i l acc = fin (l.foldl g acc)
  | [], i, acc => rfl
  | x :: l, i, acc => by
    rw [walkL]
    exact walk_foldl g fin l (i + 1) (g acc x)

theorem less_val (a b : KE) : pledgeref04_Less a b = some (ltOf cmp3 a b) := by
  unfold pledgeref04_Less
  rw [lt3]
  by_cases h1 : a.1 = b.1
  · rw [show ((a.1 : Int) != b.1) = false by simpa using h1]
    by_cases h2 : a.2.1 = b.2.1
    · rw [show ((a.2.1 : Int) != b.2.1) = false by simpa using h2]
      simp only [cond_false]
      congr 1
      rw [Bool.eq_iff_iff]; simp only [decide_eq_true_eq]; omega
    · rw [show ((a.2.1 : Int) != b.2.1) = true by simpa using h2]
      simp only [cond_false, cond_true]
      congr 1
      rw [Bool.eq_iff_iff]; simp only [decide_eq_true_eq]; omega
  · rw [show ((a.1 : Int) != b.1) = true by simpa using h1]
    simp only [cond_true]
    congr 1
    rw [Bool.eq_iff_iff]; simp only [decide_eq_true_eq]; omega

/-! ### A key more -/
def insG (k : KE) (a : Bool × List KE) (e : KE) : Bool × List KE :=
  (a.1 || !ltOf cmp3 e k, a.2 ++ (if a.1 = false ∧ ltOf cmp3 e k = false then [k] else []) ++ (if e = k then [] else [e]))
def insK (l : List KE) (k : KE) : List KE := let a := l.foldl (insG k) (false, []); if a.1 = true then a.2 else a.2 ++ [k]
theorem with_val (l : List KE) (k : KE) (hl : l.length ≤ 100000) : pledgeref04_With l k = some (insK l k) := by
  unfold pledgeref04_With
  have := loop_walk (step := pledgeref04_With.l1) l (fun i (a : Bool × List KE) => ((l, ((), ((), (a.1, (i : Int))))), (k, (a.2, ())))) (fun _ e a => .inl (insG k a e)) (fun a => (((), ((), a.1)), (k, (a.2, ())))) (fun i a => a.2.length ≤ 2 * i) (false, []) (by omega) (Nat.le_refl _) (fun i e a hx hi => by
    have hi2 := get_lt hx
    obtain ⟨fl, acc⟩ := a
    simp only at hi
    constructor
    · unfold pledgeref04_With.l1
      simp only [dec_t (show (i : Int) < (l.length : Int) by omega), cond_true]
      have tail : ∀ (fl2 : Bool) (acc2 : List KE), acc2.length ≤ 2 * i + 1 → (nthK l (i : Int) fun e6 => bif !(eqE kKey e6 k) then nthK l (i : Int) fun e7 => room (acc2.length + [e7].length) (some (Sum.inl ((l, ((), ((), (fl2, IntKind.i64.wrap ((i : Int) + 1))))), (k, (acc2 ++ [e7], ()))))) else some (Sum.inl ((l, ((), ((), (fl2, IntKind.i64.wrap ((i : Int) + 1))))), (k, (acc2, ()))))) =
          (some (Sum.inl ((l, ((), ((), (fl2, ((i + 1 : Nat) : Int))))), (k, (acc2 ++ (if e = k then [] else [e]), ())))) : Option ((((List KE) × Unit × Unit × Bool × Int) × KE × (List KE) × Unit) ⊕ ((Unit × Unit × Bool) × KE × (List KE) × Unit))) := fun fl2 acc2 h2 => by
        rw [nthK_get hx, succ_i64 (by omega)]
        by_cases he : e = k
        · rw [eqK_iff.2 he, if_pos he, List.append_nil]; rfl
        · rw [eqK_ne he, if_neg he]
          simp only [Bool.not_false, cond_true]
          rw [nthK_get hx, room_ok (by simp only [List.length_cons, List.length_nil]; omega)]
      cases fl with
      | true =>
        simp only [Bool.not_true, cond_false]
        refine (bind_of rfl).trans ?_
        refine (tail true acc (by omega)).trans ?_
        simp [insG]
      | false =>
        simp only [Bool.not_false, cond_true]
        rw [nthK_get hx]
        rw [show (pledgeref04_Less e k) = some (ltOf cmp3 e k) from less_val e k]
        cases hq : ltOf cmp3 e k with
        | true =>
          refine (bind_of (a := ((l, ((), ((), (false, (i : Int))))), (k, (acc, ())))) rfl).trans ?_
          refine (tail false acc (by omega)).trans ?_
          simp [insG, hq]
        | false =>
          refine (bind_of (a := ((l, ((), ((), (true, (i : Int))))), (k, (acc ++ [k], ())))) ?_).trans ?_
          · rw [Option.bind_some]
            simp only [Bool.not_false, cond_true]
            rw [room_ok (by simp only [List.length_cons, List.length_nil]; omega)]
          refine (tail true (acc ++ [k]) (by simp only [List.length_append, List.length_cons, List.length_nil]; omega)).trans ?_
          simp [insG, hq]
    · intro b hb
      cases hb
      unfold insG
      simp only [List.length_append]
      split <;> split <;> simp <;> omega) (fun a _ => by
    unfold pledgeref04_With.l1
    simp only [dec_f (show ¬ (l.length : Int) < (l.length : Int) by omega), cond_false])
  rw [show (((0 : Nat) : Int)) = 0 from rfl, walk_foldl (insG k)] at this
  refine (bind_of (f := _) this).trans ?_
  unfold insK
  have hlen : (l.foldl (insG k) (false, [])).2.length ≤ 2 * l.length := by
    have : ∀ (l : List KE) (a : Bool × List KE), (l.foldl (insG k) a).2.length ≤ a.2.length + 2 * l.length := by
      intro l
      induction l with
      | nil => intro a; simp
      | cons e l ih =>
        intro a
        have h1 := ih (insG k a e)
        have h2 : (insG k a e).2.length ≤ a.2.length + 2 := by
          unfold insG; simp only [List.length_append]; split <;> split <;> simp
        simp only [List.foldl_cons, List.length_cons]; omega
    simpa using this l (false, [])
  generalize l.foldl (insG k) (false, []) = a at hlen ⊢
  obtain ⟨fl, acc⟩ := a
  cases fl with
  | true => rfl
  | false =>
    show room (acc.length + 1) (some (acc ++ [k])) = _
    simp only at hlen
    rw [room_ok (by omega)]; rfl

theorem ins_true (k : KE) : ∀ (l acc : List KE), l.foldl (insG k) (true, acc) = (true, acc ++ l.filter fun e => decide (e ≠ k))
  | [], acc => by simp
  | e :: l, acc => by
    have e1 : insG k (true, acc) e = (true, acc ++ (if e = k then [] else [e])) := by simp [insG]
    rw [List.foldl_cons, e1, ins_true k l]
    by_cases h : e = k
    · rw [if_pos h, List.filter_cons_of_neg (by simpa using h), List.append_nil]
    · rw [if_neg h, List.filter_cons_of_pos (by simpa using h), List.append_assoc]; rfl
def insR (k : KE) : List KE → List KE
  | [] => [k]
  | e :: r => if ltOf cmp3 e k = true then e :: insR k r else k :: (e :: r).filter fun e => decide (e ≠ k)
theorem ins_eq (k : KE) : ∀ (l acc : List KE), (let a := l.foldl (insG k) (false, acc); if a.1 = true then a.2 else a.2 ++ [k]) = acc ++ insR k l
  | [], acc => rfl
  | e :: l, acc => by
    cases hq : ltOf cmp3 e k with
    | true =>
      have hne : e ≠ k := fun q => by rw [q, swo3.irrefl] at hq; cases hq
      have e1 : insG k (false, acc) e = (false, acc ++ [e]) := by simp [insG, hq, hne]
      rw [List.foldl_cons, e1]
      refine (ins_eq k l (acc ++ [e])).trans ?_
      rw [insR, if_pos hq, List.append_assoc]; rfl
    | false =>
      have e1 : insG k (false, acc) e = (true, acc ++ [k] ++ (if e = k then [] else [e])) := by simp [insG, hq]
      have e2 : insR k (e :: l) = k :: (e :: l).filter fun e => decide (e ≠ k) := by rw [insR, hq]; rfl
      rw [List.foldl_cons, e1, ins_true, e2]
      show acc ++ [k] ++ (if e = k then [] else [e]) ++ _ = _
      by_cases h : e = k
      · rw [if_pos h, List.filter_cons_of_neg (by simpa using h), List.append_nil, List.append_assoc]; rfl
      · rw [if_neg h, List.filter_cons_of_pos (by simpa using h)]; simp
theorem insK_eq (l : List KE) (k : KE) : insK l k = insR k l := (ins_eq k l []).trans (List.nil_append _)
theorem insR_mem (k : KE) : ∀ (l : List KE) (x : KE), x ∈ insR k l ↔ x ∈ l ∨ x = k
  | [], x => by simp [insR]
  | e :: r, x => by
    rw [insR]
    split
    · rw [List.mem_cons, insR_mem k r x, List.mem_cons]
      exact ⟨fun h => h.elim (fun q => .inl (.inl q)) fun h => h.elim (fun q => .inl (.inr q)) .inr, fun h => h.elim (fun h => h.elim .inl fun q => .inr (.inl q)) fun q => .inr (.inr q)⟩
    · rw [List.mem_cons, List.mem_filter]
      simp only [decide_eq_true_eq]
      constructor
      · rintro (h | h)
        · exact .inr h
        · exact .inl h.1
      · rintro (h | h)
        · by_cases q : x = k
          · exact .inl q
          · exact .inr ⟨h, q⟩
        · exact .inl h
theorem insR_sorted (k : KE) : ∀ (l : List KE), (l.Pairwise fun a b => ltOf cmp3 a b = true) → (insR k l).Pairwise fun a b => ltOf cmp3 a b = true
  | [], _ => by simp [insR]
  | e :: r, h => by
    obtain ⟨h1, h2⟩ := List.pairwise_cons.1 h
    rw [insR]
    split
    · rename_i q
      refine List.pairwise_cons.2 ⟨fun x hx => ?_, insR_sorted k r h2⟩
      rcases (insR_mem k r x).1 hx with r1 | r1
      · exact h1 x r1
      · rw [r1]; exact q
    · rename_i q
      have q : ltOf cmp3 e k = false := by simpa using q
      refine List.pairwise_cons.2 ⟨fun x hx => ?_, h.sublist (List.filter_sublist)⟩
      obtain ⟨m1, m2⟩ := List.mem_filter.1 hx
      simp only [decide_eq_true_eq] at m2
      cases hq : ltOf cmp3 k x with
      | true => rfl
      | false =>
        exfalso
        refine m2 (tot3 x k ?_ hq)
        rcases List.mem_cons.1 m1 with e1 | e1
        · rw [e1]; exact q
        · cases hz : ltOf cmp3 x k with
          | false => rfl
          | true => have := swo3.trans e x k (h1 x e1) hz; rw [q] at this; cases this

/-! ### Deltas -/
def selD (sg d : Int) : Bool := (sg == 0) || ((decide (sg < 0) && decide (d < 0)) || (decide (sg > 0) && decide (d > 0)))
theorem deltas_val (l : List OpE) (k : KE) (sg : Int) (hl : l.length ≤ 100000) : pledgeref11_Deltas l k sg = some ((dl l k).filter (selD sg)) := by
  unfold pledgeref11_Deltas
  have := loop_walk (step := pledgeref11_Deltas.l1) l (fun i (acc : List Int) => ((l, (sg, ((), ((), (i : Int))))), (k, (acc, ())))) (fun _ x acc => .inl (acc ++ (if x.1 = k ∧ selD sg x.2.1 = true then [x.2.1] else []))) (fun acc => ((), (acc, ()))) (fun i acc => acc.length ≤ i) [] (by omega) (Nat.le_refl _) (fun i x acc hx hi => by
    have hi2 := get_lt hx
    constructor
    · unfold pledgeref11_Deltas.l1
      simp only [dec_t (show (i : Int) < (l.length : Int) by omega), cond_true]
      rw [nthK_get hx]
      have tail : ∀ (b : Bool) (A : Option ((List OpE × Int × Unit × Unit × Int × Int × Bool) × KE × List Int × Unit)), A = some ((l, (sg, ((), ((), ((i : Int), (x.2.1, b)))))), (k, (acc, ()))) → (b = true ↔ x.1 = k ∧ selD sg x.2.1 = true) → (A.bind fun y8 => bif y8.1.2.2.2.2.2.2 then room (y8.2.2.1.length + [y8.1.2.2.2.2.2.1].length) (some (Sum.inl ((y8.1.1, (y8.1.2.1, ((), ((), IntKind.i64.wrap (y8.1.2.2.2.2.1 + 1))))), (y8.2.1, (y8.2.2.1 ++ [y8.1.2.2.2.2.2.1], ()))))) else some (Sum.inl ((y8.1.1, (y8.1.2.1, ((), ((), IntKind.i64.wrap (y8.1.2.2.2.2.1 + 1))))), (y8.2.1, (y8.2.2.1, ()))))) =
          (some (Sum.inl ((l, (sg, ((), ((), ((i + 1 : Nat) : Int))))), (k, (acc ++ (if x.1 = k ∧ selD sg x.2.1 = true then [x.2.1] else []), ())))) : Option (((List OpE × Int × Unit × Unit × Int) × KE × List Int × Unit) ⊕ (Unit × List Int × Unit))) := fun b A hA hb => by
        rw [hA, Option.bind_some]
        cases b with
        | true =>
          simp only [cond_true]
          rw [room_ok (by simp only [List.length_cons, List.length_nil]; omega), succ_i64 (by omega), if_pos (hb.1 rfl)]
        | false =>
          simp only [cond_false]
          rw [succ_i64 (by omega), if_neg (fun q => by have := hb.2 q; cases this), List.append_nil]
      have sk : ∀ b : Bool, (b = true ↔ x.1 = k ∧ selD sg x.2.1 = true) → (nthK l (i : Int) fun e7 => bif eqE kKey e7.1 k then bif (sg : Int) == 0 then some ((l, (sg, ((), ((), ((i : Int), (x.2.1, true)))))), (k, (acc, ()))) else bif decide (sg < 0) then bif decide (x.2.1 < 0) then some ((l, (sg, ((), ((), ((i : Int), (x.2.1, true)))))), (k, (acc, ()))) else bif decide (sg > 0) then some ((l, (sg, ((), ((), ((i : Int), (x.2.1, decide (x.2.1 > 0))))))), (k, (acc, ()))) else some ((l, (sg, ((), ((), ((i : Int), (x.2.1, false)))))), (k, (acc, ()))) else bif decide (sg > 0) then some ((l, (sg, ((), ((), ((i : Int), (x.2.1, decide (x.2.1 > 0))))))), (k, (acc, ()))) else some ((l, (sg, ((), ((), ((i : Int), (x.2.1, false)))))), (k, (acc, ()))) else some ((l, (sg, ((), ((), ((i : Int), (x.2.1, false)))))), (k, (acc, ())))) = (some ((l, (sg, ((), ((), ((i : Int), (x.2.1, b)))))), (k, (acc, ()))) : Option ((List OpE × Int × Unit × Unit × Int × Int × Bool) × KE × List Int × Unit)) := fun b hb => by
        rw [nthK_get hx]
        by_cases hk : x.1 = k
        · rw [eqK_iff.2 hk, cond_true]
          have hb : b = selD sg x.2.1 := by rw [Bool.eq_iff_iff, hb]; exact ⟨fun q => q.2, fun q => ⟨hk, q⟩⟩
          rw [hb]
          unfold selD
          by_cases h0 : sg = 0
          · subst h0; rfl
          · rw [show ((sg : Int) == 0) = false by simpa using h0]
            by_cases h1 : sg < 0
            · rw [dec_t h1, dec_f (show ¬ sg > 0 by omega)]
              cases decide (x.2.1 < 0) <;> rfl
            · rw [dec_f h1, dec_t (show sg > 0 by omega)]
              cases decide (x.2.1 > 0) <;> rfl
        · rw [eqK_ne hk, cond_false]
          have hb : b = false := by
            cases b with
            | false => rfl
            | true => exact absurd (hb.1 rfl).1 hk
          rw [hb]
      exact tail _ _ (sk (decide (x.1 = k ∧ selD sg x.2.1 = true)) decide_eq_true_iff) decide_eq_true_iff
    · intro b hb
      cases hb
      simp only [List.length_append]
      split <;> simp <;> omega) (fun acc _ => by
    unfold pledgeref11_Deltas.l1
    simp only [dec_f (show ¬ (l.length : Int) < (l.length : Int) by omega), cond_false])
  rw [show (((0 : Nat) : Int)) = 0 from rfl, walk_gather (fun x : OpE => if x.1 = k ∧ selD sg x.2.1 = true then [x.2.1] else [])] at this
  refine (bind_of (f := _) this).trans ?_
  congr 1
  show [] ++ l.flatMap _ = _
  rw [List.nil_append]
  clear this hl
  induction l with
  | nil => rfl
  | cons x l ih =>
    rw [List.flatMap_cons, ih, dl_cons]
    by_cases h1 : x.1 = k
    · rw [if_pos h1]
      by_cases h2 : selD sg x.2.1 = true
      · rw [if_pos ⟨h1, h2⟩, List.filter_cons_of_pos h2]; rfl
      · rw [if_neg (fun q => h2 q.2), List.filter_cons_of_neg h2]; rfl
    · rw [if_neg h1, if_neg (fun q => h1 q.1)]; rfl
theorem filter_all (l : List Int) : l.filter (selD 0) = l := List.filter_eq_self.2 fun d _ => rfl

/-! ### Net -/
theorem refNet_val {l : List OpE} {ks : List KE} (hw : ∀ x ∈ l, -9223372036854775808 ≤ x.2.1 ∧ x.2.1 < 9223372036854775808) (hl : l.length ≤ 1000) (hk : SK l ks) : pledgeref11_Net l = some (netV l ks) := by
  have h1 := loop_walk (step := pledgeref11_Net.l1) l (fun i (acc : List KE) => (l, (acc, (i : Int)))) (fun _ x acc => .inl (insR x.1 acc)) (fun acc => (l, acc)) (fun i acc => acc.length ≤ i ∧ SK (l.take i) acc) [] (by omega) ⟨Nat.le_refl _, by simp, fun k => by simp⟩ (fun i x acc hx hi => by
    have hi2 := get_lt hx
    constructor
    · unfold pledgeref11_Net.l1
      simp only [dec_t (show (i : Int) < (l.length : Int) by omega), cond_true]
      rw [nthK_get hx]
      refine (bind_of (f := _) (with_val acc x.1 (by omega))).trans ?_
      rw [insK_eq, succ_i64 (by omega)]
    · intro b hb
      cases hb
      refine ⟨?_, insR_sorted _ _ hi.2.sorted, fun k => ?_⟩
      · have : ∀ (l : List KE) (k : KE), (insR k l).length ≤ l.length + 1 := by
          intro l k
          induction l with
          | nil => simp [insR]
          | cons e r ih =>
            rw [insR]
            split
            · simp only [List.length_cons]; omega
            · have := List.length_filter_le (fun e => decide (e ≠ k)) (e :: r)
              rw [List.length_cons]; omega
        have := this acc x.1; omega
      · rw [insR_mem, hi.2.mem, List.take_add_one, hx]
        simp only [Option.toList_some, List.mem_append, List.mem_singleton]
        constructor
        · rintro (⟨y, hy, e⟩ | e)
          · exact ⟨y, .inl hy, e⟩
          · exact ⟨x, .inr rfl, e.symm⟩
        · rintro ⟨y, hy | hy, e⟩
          · exact .inl ⟨y, hy, e⟩
          · subst hy; exact .inr e.symm) (fun acc _ => by
    unfold pledgeref11_Net.l1
    simp only [dec_f (show ¬ (l.length : Int) < (l.length : Int) by omega), cond_false])
  rw [show (((0 : Nat) : Int)) = 0 from rfl, walk_foldl (fun (acc : List KE) (x : OpE) => insR x.1 acc)] at h1
  have hf : l.foldl (fun (acc : List KE) (x : OpE) => insR x.1 acc) [] = ks := by
    have : ∀ (l l0 : List OpE) (acc : List KE), SK l0 acc → SK (l0 ++ l) (l.foldl (fun (acc : List KE) (x : OpE) => insR x.1 acc) acc) := by
      intro l
      induction l with
      | nil => intro l0 acc h; simpa using h
      | cons x l ih =>
        intro l0 acc h
        have := ih (l0 ++ [x]) (insR x.1 acc) ⟨insR_sorted _ _ h.sorted, fun k => by
          rw [insR_mem, h.mem]
          simp only [List.mem_append, List.mem_singleton]
          constructor
          · rintro (⟨y, hy, e⟩ | e)
            · exact ⟨y, .inl hy, e⟩
            · exact ⟨x, .inr rfl, e.symm⟩
          · rintro ⟨y, hy | hy, e⟩
            · exact .inl ⟨y, hy, e⟩
            · subst hy; exact .inr e.symm⟩
        simpa using this
    exact (this l [] [] ⟨by simp, fun k => by simp⟩).unique hk fun _ => by simp
  rw [hf] at h1
  have hlen : ks.length ≤ 1000 := by
    have hks : ks = (keysE (gG l [])).mergeSort (leOf cmp3) := SK.unique hk (sort_SK l) fun _ => Iff.rfl
    rw [hks, List.length_mergeSort]
    show ((gG l []).map fun p => p.1).length ≤ 1000
    have := gG_len l []
    simp only [List.length_nil] at this
    rw [List.length_map]; omega
  have hsum : ∀ k, ((pledgeref11_Deltas l k 0).bind fun r6 => pledgeref01_Sum r6) = some (sumOf (dl l k)) := fun k => by
    rw [deltas_val l k 0 (by omega), Option.bind_some, filter_all]
    refine refsum_all _ (by have := dl_len l k; omega) fun d hd => ?_
    obtain ⟨x, hx, _, e⟩ := dl_mem hd
    rw [← e]; exact hw x hx
  have hlp := loop_walk (step := pledgeref11_Net.l2) ks (fun i (acc : List OpE) => ((l, (ks, ((), (i : Int)))), (acc, ()))) (X := (Unit × List OpE × Unit) ⊕ (Unit × Bool))
    (fun _ k acc => if fitsI (S l k) = true then (if S l k = 0 then .inl acc else .inl (acc ++ [(k, (S l k, ()))])) else .inr (.inr ((), false))) (fun acc => .inl ((), (acc, ()))) (fun i acc => acc.length ≤ i) [] (by omega) (Nat.le_refl _) (fun i k acc hx hi => by
    have hi2 := get_lt hx
    constructor
    · unfold pledgeref11_Net.l2
      simp only [dec_t (show (i : Int) < (ks.length : Int) by omega), cond_true]
      rw [nthK_get hx]
      have e1 := deltas_val l k 0 (by omega)
      have e2 := hsum k
      rw [e1] at e2
      refine (bind_of (f := _) e1).trans ?_
      refine (bind_of (f := _) e2).trans ?_
      unfold sumOf
      by_cases h1 : fitsI (S l k) = true
      · rw [if_pos (show fitsI (total (dl l k)) = true from h1), if_pos h1]
        simp only [Bool.not_true, cond_false]
        by_cases h2 : S l k = 0
        · rw [if_pos h2, show ((total (dl l k) : Int) != 0) = false by rw [show total (dl l k) = 0 from h2]; rfl]
          simp only [cond_false]
          rw [succ_i64 (by omega)]
        · rw [if_neg h2, show ((total (dl l k) : Int) != 0) = true by have : total (dl l k) ≠ 0 := h2; simpa using this]
          simp only [cond_true]
          rw [nthK_get hx, room_ok (by simp only [List.length_cons, List.length_nil]; omega), succ_i64 (by omega)]; rfl
      · rw [if_neg (show ¬ fitsI (total (dl l k)) = true from h1), if_neg h1]; rfl
    · intro a ha
      by_cases h1 : fitsI (S l k) = true
      · rw [if_pos h1] at ha
        by_cases h2 : S l k = 0
        · rw [if_pos h2] at ha; cases ha; omega
        · rw [if_neg h2] at ha; cases ha; simp only [List.length_append, List.length_cons, List.length_nil]; omega
      · rw [if_neg h1] at ha; cases ha) (fun acc _ => by
    unfold pledgeref11_Net.l2
    simp only [dec_f (show ¬ (ks.length : Int) < (ks.length : Int) by omega), cond_false])
  rw [show (((0 : Nat) : Int)) = 0 from rfl, net_walk (S l)] at hlp
  refine (bind_of (f := _) h1).trans ((bind_of (f := _) hlp).trans ?_)
  unfold netV
  by_cases h : ks.all (fun k => fitsI (S l k)) = true
  · rw [if_pos h, if_pos h]; rfl
  · rw [if_neg h, if_neg h]
end Go.Proofs.Pure
