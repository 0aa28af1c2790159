/- Steps: which are the same, which may be. -/
import Derived.Test.YtkipelkedgckoaaSame
set_option linter.unusedVariables false
namespace Go.Proofs.Pure
open Go.Proofs.D Go.Proofs.F

/-! ### Which may be -/
def fineS (s w : Int) : Bool := decide (1 ≤ s) && decide (s ≤ 4) && decide (1 ≤ w) && decide (w ≤ 4)
def keyB (s w k a : Int) : Bool := fineS s w && decide (k < s) && decide (a < w)

theorem key_fine_val (s w : Int) : key_fine s w = some (fineS s w) := by
  unfold key_fine fineS
  by_cases h1 : 1 ≤ s <;> by_cases h2 : s ≤ 4 <;> by_cases h3 : 1 ≤ w <;> by_cases h4 : w ≤ 4 <;> simp [h1, h2, h3, h4]

theorem key_good_val (s w k a : Int) (hk : 0 ≤ k ∧ k < 256) (ha : 0 ≤ a ∧ a < 256) : key_Good s w (1, (k, (a, ()))) = some (keyB s w k a) := by
  unfold key_Good keyB
  rw [key_fine_val]
  have e1 : IntKind.i64.wrap k = k := wrap_i64 (by omega) (by omega)
  have e2 : IntKind.i64.wrap a = a := wrap_i64 (by omega) (by omega)
  have e3 : key_both 1 = some true := rfl
  simp only [Option.bind_some, e1, e2, e3, show decide ((1 : Int) < 1) = false by decide, show decide ((1 : Int) > 4) = false by decide, cond_false]
  cases fineS s w with
  | false => rfl
  | true =>
    by_cases h1 : k ≥ s
    · rw [dec_t h1, dec_f (by omega : ¬ k < s)]; rfl
    · rw [dec_f h1, dec_t (by omega : k < s)]
      by_cases h2 : a < w
      · rw [dec_t h2]; rfl
      · rw [dec_f h2]; rfl

theorem wf_line {l : List Ln} (h : ∀ x ∈ l, WfE kLine x) {i : Nat} (hi : i < l.length) : (0 ≤ (at0 l i).1 ∧ (at0 l i).1 < 256) ∧ -9223372036854775808 ≤ (at0 l i).2.1 ∧ (at0 l i).2.1 < 9223372036854775808 := by
  have := h (at0 l i) (by have := at_get hi; exact List.mem_of_getElem? this)
  exact ⟨wf_u8 this.1, wf_i64 this.2.1⟩

def risesB (l : List Ln) (i : Nat) : Bool := Nat.beq i 0 || decide ((at0 l (i - 1)).1 < (at0 l i).1)
def goodA (s w a : Int) (l : List Ln) (i : Nat) : Bool := decide (1 ≤ (at0 l i).2.1) && risesB l i && keyB s w (at0 l i).1 a
def goodR (s : Int) (l : List Ln) (i : Nat) : Bool := decide ((at0 l i).1 < s) && decide (1 ≤ (at0 l i).2.1) && risesB l i

theorem stepGood_loop (s w : Int) (x : Stp) (hl : x.2.2.1.length < 1000) (hw : ∀ y ∈ x.2.2.1, WfE kLine y) (ha : 0 ≤ x.2.1 ∧ x.2.1 < 256) :
    iterL step_Good.l1 loopN ((s, (w, ((), (x.2.2.1, ((x.2.2.1.length : Int), 0))))), (x, ())) = some (bif allFrom (goodA s w x.2.1 x.2.2.1) 0 x.2.2.1.length then .inl () else .inr false) := by
  have := loop_all (step := step_Good.l1) (fun i => ((s, (w, ((), (x.2.2.1, ((x.2.2.1.length : Int), (i : Int)))))), (x, ()))) (goodA s w x.2.1 x.2.2.1) (.inl ()) (.inr false) x.2.2.1.length (by omega) (fun i hi => by
    have hw1 := wf_line hw hi
    unfold step_Good.l1 goodA
    simp only [dec_t (show (i : Int) < (x.2.2.1.length : Int) by omega), cond_true]
    rw [nthK_get (at_get hi)]
    by_cases q : (at0 x.2.2.1 i).2.1 < 1
    · rw [dec_t q, dec_f (by omega : ¬ 1 ≤ (at0 x.2.2.1 i).2.1)]; rfl
    · rw [dec_f q, dec_t (by omega : 1 ≤ (at0 x.2.2.1 i).2.1)]
      simp only [cond_false, Bool.true_and, key_good_val s w _ _ hw1.1 ha, Option.bind_some, succ_i64 (show i < 9223372036854775807 by omega)]
      unfold risesB
      cases i with
      | zero =>
        rw [dec_f (by omega : ¬ ((0 : Nat) : Int) > 0)]
        simp only [cond_false, Nat.beq_refl, Bool.true_or, Bool.true_and]
        cases keyB s w (at0 x.2.2.1 0).1 x.2.1 <;> rfl
      | succ i =>
        have e : IntKind.i64.wrap (((i + 1 : Nat) : Int) - 1) = (i : Int) := by rw [wrap_i64 (by omega) (by omega)]; omega
        rw [dec_t (by omega : ((i + 1 : Nat) : Int) > 0)]
        simp only [cond_true, e]
        rw [nthK_get (at_get (by omega : i < x.2.2.1.length))]
        rw [show Nat.beq (i + 1) 0 = false from rfl, Bool.false_or, Nat.add_sub_cancel]
        by_cases r : (at0 x.2.2.1 i).1 ≥ (at0 x.2.2.1 (i + 1)).1
        · rw [dec_t r, dec_f (by omega : ¬ (at0 x.2.2.1 i).1 < (at0 x.2.2.1 (i + 1)).1)]; rfl
        · rw [dec_f r, dec_t (by omega : (at0 x.2.2.1 i).1 < (at0 x.2.2.1 (i + 1)).1)]
          simp only [cond_false, Bool.true_and]
          cases keyB s w (at0 x.2.2.1 (i + 1)).1 x.2.1 <;> rfl) (by
    unfold step_Good.l1
    simp only [dec_f (show ¬ (x.2.2.1.length : Int) < (x.2.2.1.length : Int) by omega), cond_false])
  rw [show (((0 : Nat) : Int)) = 0 from rfl] at this
  exact this

theorem lines12_loop (s : Int) (l : List Ln) (hl : l.length < 1000) (hw : ∀ y ∈ l, WfE kLine y) : iterL pledgeref12_Lines.l1 loopN (s, (l, 0)) = some (bif allFrom (goodR s l) 0 l.length then .inl l else .inr false) := by
  have := loop_all (step := pledgeref12_Lines.l1) (fun i => (s, (l, (i : Int)))) (goodR s l) (.inl l) (.inr false) l.length (by omega) (fun i hi => by
    have hw1 := wf_line hw hi
    have e1 : IntKind.i64.wrap (at0 l i).1 = (at0 l i).1 := wrap_i64 (by omega) (by omega)
    unfold pledgeref12_Lines.l1 goodR
    simp only [dec_t (show (i : Int) < (l.length : Int) by omega), cond_true]
    rw [nthK_get (at_get hi), e1]
    by_cases q0 : (at0 l i).1 ≥ s
    · rw [dec_t q0, dec_f (by omega : ¬ (at0 l i).1 < s)]; rfl
    · rw [dec_f q0, dec_t (by omega : (at0 l i).1 < s)]
      simp only [cond_false, Bool.true_and]
      rw [nthK_get (at_get hi)]
      by_cases q : (at0 l i).2.1 < 1
      · rw [dec_t q, dec_f (by omega : ¬ 1 ≤ (at0 l i).2.1)]; rfl
      · rw [dec_f q, dec_t (by omega : 1 ≤ (at0 l i).2.1)]
        simp only [cond_false, Bool.true_and, succ_i64 (show i < 9223372036854775807 by omega)]
        unfold risesB
        cases i with
        | zero =>
          rw [dec_f (by omega : ¬ ((0 : Nat) : Int) > 0)]
          rfl
        | succ i =>
          have e : IntKind.i64.wrap (((i + 1 : Nat) : Int) - 1) = (i : Int) := by rw [wrap_i64 (by omega) (by omega)]; omega
          rw [dec_t (by omega : ((i + 1 : Nat) : Int) > 0)]
          simp only [cond_true, e]
          rw [nthK_get (at_get (by omega : i < l.length)), nthK_get (at_get hi)]
          rw [show Nat.beq (i + 1) 0 = false from rfl, Bool.false_or, Nat.add_sub_cancel]
          by_cases r : (at0 l i).1 ≥ (at0 l (i + 1)).1
          · rw [dec_t r, dec_f (by omega : ¬ (at0 l i).1 < (at0 l (i + 1)).1)]; rfl
          · rw [dec_f r, dec_t (by omega : (at0 l i).1 < (at0 l (i + 1)).1)]; rfl) (by
    unfold pledgeref12_Lines.l1
    simp only [dec_f (show ¬ (l.length : Int) < (l.length : Int) by omega), cond_false])
  rw [show (((0 : Nat) : Int)) = 0 from rfl] at this
  exact this

theorem lines12_val (s : Int) (l : List Ln) (hl : l.length < 1000) (hw : ∀ y ∈ l, WfE kLine y) : pledgeref12_Lines s l = some (allFrom (goodR s l) 0 l.length && decide (l.length ≤ 3)) := by
  unfold pledgeref12_Lines
  rw [lines12_loop s l hl hw, Option.bind_some]
  cases allFrom (goodR s l) 0 l.length with
  | false => rfl
  | true =>
    simp only [cond_true, Bool.true_and]
    congr 1
    by_cases h : l.length ≤ 3
    · rw [dec_t h, dec_t (by omega : (l.length : Int) ≤ 3)]
    · rw [dec_f h, dec_f (by omega : ¬ (l.length : Int) ≤ 3)]

/-- Which steps may be. -/
def goodS (s w : Int) (x : Stp) : Bool := fineS s w && decide (1 ≤ x.1) && decide (x.1 ≤ 8) && decide (1 ≤ x.2.2.1.length) && decide (x.2.2.1.length ≤ 3) && allFrom (goodR s x.2.2.1) 0 x.2.2.1.length && (bif decide (7 ≤ x.1) then x.2.1 == 0 else decide (x.2.1 < w))

theorem stepGood_val (s w : Int) (x : Stp) (hx : WfE kStep x) (hl : x.2.2.1.length < 1000) : step_Good s w x = some (goodS s w x) := by
  obtain ⟨h1, h2, ⟨_, h3⟩, _⟩ := hx
  have w2 := wf_u8 h2
  -- the loop's result, where there is something
  have key : 1 ≤ x.2.2.1.length → (allFrom (goodA s w x.2.1 x.2.2.1) 0 x.2.2.1.length = (fineS s w && allFrom (goodR s x.2.2.1) 0 x.2.2.1.length && decide (x.2.1 < w))) := fun hpos => boolEq (by
    simp only [Bool.and_eq_true, allFrom_iff, decide_eq_true_eq]
    unfold goodA goodR keyB
    simp only [Bool.and_eq_true, decide_eq_true_eq]
    constructor
    · intro h
      have h0 := h 0 (by omega) (by omega)
      exact ⟨⟨h0.2.1.1, fun j a b => by have := h j a b; exact ⟨⟨this.2.1.2, this.1.1⟩, this.1.2⟩⟩, h0.2.2⟩
    · rintro ⟨⟨h4, h5⟩, h6⟩ j a b
      have := h5 j a b
      exact ⟨⟨this.1.2, this.2⟩, ⟨h4, this.1.1⟩, h6⟩)
  unfold step_Good goodS
  by_cases c5 : x.1 < 1
  · rw [dec_t c5, dec_f (by omega : ¬ 1 ≤ x.1)]; simp
  by_cases c6 : x.1 > 8
  · rw [dec_f c5, dec_t c6, dec_f (by omega : ¬ x.1 ≤ 8)]; simp
  by_cases c7 : (x.2.2.1.length : Int) < 1
  · rw [dec_f c5, dec_f c6, dec_t c7, dec_f (by omega : ¬ 1 ≤ x.2.2.1.length)]; simp
  by_cases c8 : (x.2.2.1.length : Int) > 3
  · rw [dec_f c5, dec_f c6, dec_f c7, dec_t c8, dec_f (by omega : ¬ x.2.2.1.length ≤ 3)]; simp
  rw [dec_f c5, dec_f c6, dec_f c7, dec_f c8, dec_t (by omega : 1 ≤ x.1), dec_t (by omega : x.1 ≤ 8), dec_t (by omega : 1 ≤ x.2.2.1.length), dec_t (by omega : x.2.2.1.length ≤ 3)]
  simp only [cond_false, Bool.and_true]
  have hware : step_atWare x.1 = some (decide (x.1 < 7)) := by
    unfold step_atWare
    by_cases a : x.1 = 7
    · rw [show ((x.1 : Int) != 7) = false by simp [a], dec_f (by omega : ¬ x.1 < 7)]; rfl
    · rw [show ((x.1 : Int) != 7) = true by simp [a]]
      by_cases b : x.1 = 8
      · rw [show ((x.1 : Int) != 8) = false by simp [b], dec_f (by omega : ¬ x.1 < 7)]; rfl
      · rw [show ((x.1 : Int) != 8) = true by simp [b], dec_t (by omega : x.1 < 7)]; rfl
  rw [hware, Option.bind_some]
  have fin : ((some (Sum.inl ((s, (w, ())), (x, ()))) : Option (((Int × Int × Unit) × Stp × Unit) ⊕ Bool)).bind fun y12 => (match y12 with | .inl y13 => (iterL step_Good.l1 loopN ((y13.1.1, (y13.1.2.1, ((), (y13.2.1.2.2.1, ((y13.2.1.2.2.1.length : Int), 0))))), (y13.2.1, ()))).bind fun y19 => (match y19 with | .inl y20 => some true | .inr y21 => some y21) | .inr y14 => some y14)) =
      some (allFrom (goodA s w x.2.1 x.2.2.1) 0 x.2.2.1.length) := by
    simp only [Option.bind_some]
    rw [stepGood_loop s w x hl h3 w2, Option.bind_some]
    cases allFrom (goodA s w x.2.1 x.2.2.1) 0 x.2.2.1.length <;> rfl
  by_cases c9 : x.1 < 7
  · rw [dec_t c9, dec_f (by omega : ¬ 7 ≤ x.1)]
    simp only [Bool.not_true, cond_false]
    refine Eq.trans fin ?_
    rw [key (by omega)]
  · rw [dec_f c9, dec_t (by omega : 7 ≤ x.1)]
    simp only [Bool.not_false, cond_true]
    by_cases c10 : x.2.1 = 0
    · rw [show ((x.2.1 : Int) != 0) = false by simp [c10], show (x.2.1 == 0) = true by simp [c10]]
      simp only [cond_false]
      refine Eq.trans fin ?_
      rw [key (by omega), c10]
      congr 1
      refine boolEq ?_
      unfold fineS
      simp only [Bool.and_eq_true, decide_eq_true_eq]
      constructor
      · rintro ⟨a, b⟩; exact ⟨a, trivial⟩
      · rintro ⟨a, b⟩; exact ⟨a, by omega⟩
    · rw [show ((x.2.1 : Int) != 0) = true by simp [c10], show (x.2.1 == 0) = false by simp [c10]]
      simp
end Go.Proofs.Pure
