/- Which takes of a restock may be: the program's way and the document's. -/
import Derived.Test.YtkipelkedgckoaaGather
import Derived.Test.YtkipelkedgckoaaLines
set_option linter.unusedVariables false
namespace Go.Proofs.Pure
open Go.Proofs.D Go.Proofs.F

abbrev Seen := List (Int × Int)
abbrev gM (m : Seen) (o : Int) : Int := getM (.int .u32) (.int .i64) m o
abbrev pM (m : Seen) (o v : Int) : Seen := putM (.int .u32) (.int .i64) m o v

theorem gM_same (o v : Int) : ∀ m : Seen, gM (pM m o v) o = v
  | [] => by
    show (bif eqE (.int .u32) o o then v else _) = v
    rw [show eqE (.int .u32) o o = true by simp [eqE]]; rfl
  | e :: m => by
    show gM (bif eqE (.int .u32) o e.1 then (o, v) :: m else e :: pM m o v) o = v
    cases h : eqE (.int .u32) o e.1 with
    | true =>
      show (bif eqE (.int .u32) o o then v else _) = v
      rw [show eqE (.int .u32) o o = true by simp [eqE]]; rfl
    | false =>
      show (bif eqE (.int .u32) o e.1 then e.2 else gM (pM m o v) o) = v
      rw [h]; exact gM_same o v m
theorem gM_other {o q : Int} (v : Int) (hne : o ≠ q) : ∀ m : Seen, gM (pM m o v) q = gM m q
  | [] => by
    show (bif eqE (.int .u32) q o then v else _) = _
    rw [show eqE (.int .u32) q o = false by simp [eqE]; exact fun h => hne h.symm]; rfl
  | e :: m => by
    show gM (bif eqE (.int .u32) o e.1 then (o, v) :: m else e :: pM m o v) q = (bif eqE (.int .u32) q e.1 then e.2 else gM m q)
    cases h : eqE (.int .u32) o e.1 with
    | true =>
      have he : o = e.1 := by simpa [eqE] using h
      show (bif eqE (.int .u32) q o then v else gM m q) = _
      rw [← he, show eqE (.int .u32) q o = false by simp [eqE]; exact fun h => hne h.symm]; rfl
    | false =>
      show (bif eqE (.int .u32) q e.1 then e.2 else gM (pM m o v) q) = _
      rw [gM_other v hne m]

def seenAt (l : List Tk) : Nat → Seen
  | 0 => [] | i + 1 => pM (seenAt l i) (at1 l i).1 (IntKind.i64.wrap (gM (seenAt l i) (at1 l i).1 + 1))
def cnt (l : List Tk) (o : Int) : Nat → Nat
  | 0 => 0 | i + 1 => cnt l o i + bif (at1 l i).1 == o then 1 else 0
theorem cnt_le (l : List Tk) (o : Int) : ∀ i, cnt l o i ≤ i
  | 0 => Nat.le_refl _ | i + 1 => by have := cnt_le l o i; simp only [cnt]; cases ((at1 l i).1 == o) <;> simp <;> omega

theorem seen_cnt (l : List Tk) : ∀ (i : Nat), i < 1000 → ∀ o, gM (seenAt l i) o = (cnt l o i : Int)
  | 0, _, o => rfl
  | i + 1, h, o => by
    have ih := seen_cnt l i (by omega)
    simp only [seenAt, cnt]
    by_cases q : (at1 l i).1 = o
    · rw [q, gM_same, ih o, show (o == o) = true by simp, wrap_i64 (by have := cnt_le l o i; omega) (by have := cnt_le l o i; omega)]
      simp
    · rw [gM_other _ q, ih o, show ((at1 l i).1 == o) = false by rw [beq_eq_false_iff_ne]; exact q]
      simp

/-- None ahead is of the same order. -/
def alone (l : List Tk) (i : Nat) : Bool := allFrom (fun k => !((at1 l k).1 == (at1 l i).1)) 0 i
theorem cnt_zero (l : List Tk) (o : Int) : ∀ i, cnt l o i = 0 ↔ ∀ k, k < i → ((at1 l k).1 == o) = false
  | 0 => by simp [cnt]
  | i + 1 => by
    simp only [cnt]
    constructor
    · intro h k hk
      have h1 : cnt l o i = 0 := by omega
      by_cases e : k = i
      · subst e
        cases q : ((at1 l k).1 == o) with
        | false => rfl
        | true => rw [q] at h; simp at h
      · exact (cnt_zero l o i).1 h1 k (by omega)
    · intro h
      rw [(cnt_zero l o i).2 fun k hk => h k (by omega), h i (by omega)]
      rfl
theorem alone_cnt (l : List Tk) (i : Nat) : alone l i = decide (cnt l (at1 l i).1 i = 0) := boolEq (by
  unfold alone
  rw [allFrom_iff, decide_eq_true_eq, cnt_zero]
  constructor
  · intro h k hk; have := h k (by omega) (by omega); simpa using this
  · intro h k _ hk; have := h k (by omega); simpa using this)

def fillR (p : Prg) (l : List Tk) (i : Nat) : Bool := alone l i && (!((at1 l i).1 == 0) && (!((at1 l i).2.1 != p.2.2.2.2.2.2.1) && (!((at1 l i).2.2.1 != p.2.2.2.2.2.2.2.2.1) && !decide ((at1 l i).2.2.2.1 < 1))))
def qtyOf (t : Tk) : Int := t.2.2.2.1
def fillsB (p : Prg) : Bool := allFrom (fillR p p.2.2.2.2.1) 0 p.2.2.2.2.1.length && (decide ((p.2.2.2.2.1.length : Int) ≤ 12) && ((sumOf (p.2.2.2.2.1.map qtyOf)).2.1 && decide ((sumOf (p.2.2.2.2.1.map qtyOf)).1 ≤ p.2.2.2.2.2.2.2.2.2.1)))

theorem flat_single : ∀ t : List Tk, t.flatMap (fun y => [qtyOf y]) = t.map qtyOf
  | [] => rfl
  | a :: t => by rw [List.flatMap_cons, flat_single t]; rfl
theorem flat_same {k : Int} : ∀ {t : List Tk}, (∀ x ∈ t, x.2.1 = k) → t.flatMap (ofTake k) = t.map qtyOf
  | [], _ => rfl
  | a :: t, h => by
    rw [List.flatMap_cons, flat_same fun x hx => h x (List.mem_cons_of_mem _ hx)]
    have h1 : ofTake k a = [qtyOf a] := by
      unfold ofTake
      rw [h a List.mem_cons_self, show (k == k) = true by simp]; rfl
    rw [h1]; rfl

theorem together_val (t : List Tk) (ht : t.length < 1000) (hw : ∀ x ∈ t, WfE kTake x) : prog_together t = some (sumOf (t.map qtyOf)) := by
  unfold prog_together
  have := loop_walk (step := prog_together.l1) t (fun i (acc : List Int) => (((), (t, ((t.length : Int), (i : Int)))), (acc, ()))) (fun _ y acc => .inl (acc ++ [qtyOf y])) (fun acc => ((), (acc, ()))) (fun i acc => acc.length ≤ i) [] (by omega) (by simp) (fun i y acc hx hI => by
    have hi := get_lt hx
    refine ⟨?_, fun _ h => by cases h; simp only [List.length_append, List.length_singleton]; omega⟩
    unfold prog_together.l1
    simp only [dec_t (show (i : Int) < (t.length : Int) by omega), cond_true]
    rw [nthK_get hx, room_ok (by simp; omega), succ_i64 (by omega)]
    rfl) (fun acc _ => by
    unfold prog_together.l1
    simp only [dec_f (show ¬ (t.length : Int) < (t.length : Int) by omega), cond_false])
  rw [show (((0 : Nat) : Int)) = 0 from rfl] at this
  rw [this, walk_gather, List.nil_append, Option.bind_some]
  simp only [flat_single]
  rw [sum_all _ (by simp; omega) (fun n hn => by
    obtain ⟨x, hx, e⟩ := List.mem_map.1 hn
    subst e; exact wfTake (hw x hx))]
  rfl

theorem progFills_val (p : Prg) (hl : p.2.2.2.2.1.length < 1000) (hw : ∀ x ∈ p.2.2.2.2.1, WfE kTake x) : prog_fills p = some (fillsB p) := by
  unfold prog_fills fillsB
  generalize hL : p.2.2.2.2.1 = l at *
  have := loop_all (step := prog_fills.l1) (fun i => (((), ((), (l, ((l.length : Int), (i : Int))))), (p, (seenAt l i, ())))) (fillR p l) (.inl ((), (p, ()))) (.inr false) l.length (by omega) (fun i hi => by
    unfold prog_fills.l1 fillR
    simp only [dec_t (show (i : Int) < (l.length : Int) by omega), cond_true]
    rw [nthK_get (at1_get hi), succ_i64 (by omega)]
    have hc := seen_cnt l i (by omega) (at1 l i).1
    have hle := cnt_le l (at1 l i).1 i
    have e1 : getM (.int .u32) (.int .i64) (seenAt l (i + 1)) (at1 l i).1 = (cnt l (at1 l i).1 i : Int) + 1 := by
      show gM (pM (seenAt l i) (at1 l i).1 (IntKind.i64.wrap (gM (seenAt l i) (at1 l i).1 + 1))) (at1 l i).1 = _
      rw [gM_same, hc, wrap_i64 (by omega) (by omega)]
    show (bif decide (getM (.int .u32) (.int .i64) (seenAt l (i + 1)) (at1 l i).1 > 1) then _ else _) = _
    rw [e1, alone_cnt]
    by_cases q : cnt l (at1 l i).1 i = 0
    · rw [dec_t q, dec_f (by omega : ¬ (cnt l (at1 l i).1 i : Int) + 1 > 1)]
      cases ((at1 l i).1 == 0) <;> cases ((at1 l i).2.1 != p.2.2.2.2.2.2.1) <;> cases ((at1 l i).2.2.1 != p.2.2.2.2.2.2.2.2.1) <;> cases decide ((at1 l i).2.2.2.1 < 1) <;> rfl
    · rw [dec_f q, dec_t (by omega : (cnt l (at1 l i).1 i : Int) + 1 > 1)]; rfl) (by
    unfold prog_fills.l1
    simp only [dec_f (show ¬ (l.length : Int) < (l.length : Int) by omega), cond_false])
  rw [show (((0 : Nat) : Int)) = 0 from rfl] at this
  have this' : iterL prog_fills.l1 loopN (((), ((), (l, ((l.length : Int), 0)))), (p, ([], ()))) = _ := this
  rw [this', Option.bind_some]
  cases allFrom (fillR p l) 0 l.length with
  | false => rfl
  | true =>
    simp only [cond_true, hL, Bool.true_and]
    rw [together_val l hl hw, Option.bind_some]
    cases decide ((l.length : Int) ≤ 12) <;> cases (sumOf (l.map qtyOf)).2.1 <;> rfl

theorem refFills_val (p : Prg) (hl : p.2.2.2.2.1.length < 1000) (hw : ∀ x ∈ p.2.2.2.2.1, WfE kTake x) : pledgeref13_fills p = some (fillsB p) := by
  unfold pledgeref13_fills fillsB
  generalize hL : p.2.2.2.2.1 = l at *
  have := loop_all (step := pledgeref13_fills.l1) (fun i => (((), (l, (i : Int))), (p, ()))) (fillR p l) (.inl (((), l), (p, ()))) (.inr false) l.length (by omega) (fun i hi => by
    have hg := at1_get hi
    unfold pledgeref13_fills.l1 fillR
    simp only [dec_t (show (i : Int) < (l.length : Int) by omega), cond_true]
    rw [nthK_get hg, nthK_get hg, nthK_get hg, nthK_get hg]
    have inner := loop_all (step := pledgeref13_fills.l2) (fun k => (((), (l, ((i : Int), (k : Int)))), (p, ()))) (fun k => !((at1 l k).1 == (at1 l i).1)) (.inl (((), (l, (i : Int))), (p, ()))) (.inr false) i (by omega) (fun k hk => by
      unfold pledgeref13_fills.l2
      simp only [dec_t (show (k : Int) < (i : Int) by omega), cond_true]
      rw [nthK_get (at1_get (by omega : k < l.length)), nthK_get hg, succ_i64 (by omega)]
      cases ((at1 l k).1 == (at1 l i).1) <;> rfl) (by
      unfold pledgeref13_fills.l2
      simp only [dec_f (show ¬ (i : Int) < (i : Int) by omega), cond_false])
    rw [show (((0 : Nat) : Int)) = 0 from rfl] at inner
    rw [inner, Option.bind_some]
    have w3 := succ_i64 (show i < 9223372036854775807 by omega)
    unfold alone
    cases ((at1 l i).1 == 0) with
    | true => simp
    | false =>
      cases ((at1 l i).2.1 != p.2.2.2.2.2.2.1) with
      | true => simp
      | false =>
        cases ((at1 l i).2.2.1 != p.2.2.2.2.2.2.2.2.1) with
        | true => simp
        | false =>
          cases decide ((at1 l i).2.2.2.1 < 1) with
          | true => simp
          | false =>
            cases allFrom (fun k => !((at1 l k).1 == (at1 l i).1)) 0 i with
            | false => rfl
            | true => simp only [cond_true, cond_false, w3, Bool.not_false, Bool.and_true]) (by
    unfold pledgeref13_fills.l1
    simp only [dec_f (show ¬ (l.length : Int) < (l.length : Int) by omega), cond_false])
  rw [show (((0 : Nat) : Int)) = 0 from rfl] at this
  rw [this, Option.bind_some]
  cases ha : allFrom (fillR p l) 0 l.length with
  | false => rfl
  | true =>
    simp only [cond_true, Bool.true_and]
    have hsku : ∀ x ∈ l, x.2.1 = p.2.2.2.2.2.2.1 := by
      intro x hx
      obtain ⟨i, hi, e⟩ := List.getElem_of_mem hx
      have h1 := (allFrom_iff.1 ha) i (by omega) (by omega)
      have ea : at1 l i = x := by unfold at1; rw [List.getD_eq_getElem?_getD, List.getElem?_eq_getElem hi, e]; rfl
      unfold fillR at h1
      rw [ea] at h1
      simp only [Bool.and_eq_true, Bool.not_eq_true', bne_eq_false_iff_eq] at h1
      exact h1.2.2.1
    have en : namedOf p.2.2.2.2.2.2.1 l [] = l.map qtyOf := by
      unfold namedOf
      rw [List.flatMap_nil, List.append_nil]
      exact flat_same hsku
    rw [refNamed_val _ l [] (by omega) (by simp) hw (by simp), Option.bind_some, en]
    cases decide ((l.length : Int) ≤ 12) <;> cases (sumOf (l.map qtyOf)).2.1 <;> rfl
end Go.Proofs.Pure
