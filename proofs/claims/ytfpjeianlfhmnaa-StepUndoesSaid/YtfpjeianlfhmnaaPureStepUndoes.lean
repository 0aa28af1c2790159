/- StepUndoes: what any step does, and what undoes it, come to nothing; a step that may be adds to fields that there are, and to each of them once. -/
import Derived.Test.YtfpjeianlfhmnaaOpsVal
set_option linter.unusedVariables false
namespace Go.Proofs.Pure
open Go.Proofs.D Go.Proofs.F

def ln0 : Ln := (0, (0, ()))
def at0 (l : List Ln) (i : Nat) : Ln := l.getD i ln0
theorem at_get {l : List Ln} {i : Nat} (h : i < l.length) : l[i]? = some (at0 l i) := by
  unfold at0; rw [List.getD_eq_getElem?_getD, List.getElem?_eq_getElem h]; rfl

/-! ### Which may be -/
def fineS (s w : Int) : Bool := decide (1 ≤ s) && decide (s ≤ 4) && decide (1 ≤ w) && decide (w ≤ 4)
def keyB (s w k a : Int) : Bool := fineS s w && decide (k < s) && decide (a < w)

theorem key_fine_val (s w : Int) : key_fine s w = some (fineS s w) := by
  unfold key_fine fineS
  by_cases h1 : 1 ≤ s <;> by_cases h2 : s ≤ 4 <;> by_cases h3 : 1 ≤ w <;> by_cases h4 : w ≤ 4 <;> simp [h1, h2, h3, h4]

theorem key_good_val (s w k a : Int) (hk : 0 ≤ k ∧ k < 256) (ha : 0 ≤ a ∧ a < 256) : key_Good s w (1, (k, (a, ()))) = some (keyB s w k a) := by
  unfold key_Good keyB
  rw [key_fine_val]
  have e1 : IntKind.i64.wrap k = k := wrap_i64 (by omega) (by omega)
  have e2 : IntKind.i64.wrap a = a := wrap_i64 (by omega) (by omega)
  have e3 : key_both 1 = some true := rfl
  simp only [Option.bind_some, e1, e2, e3, show decide ((1 : Int) < 1) = false by decide, show decide ((1 : Int) > 4) = false by decide, cond_false]
  cases fineS s w with
  | false => rfl
  | true =>
    by_cases h1 : k ≥ s
    · rw [dec_t h1, dec_f (by omega : ¬ k < s)]; rfl
    · rw [dec_f h1, dec_t (by omega : k < s)]
      by_cases h2 : a < w
      · rw [dec_t h2]; rfl
      · rw [dec_f h2]; rfl

theorem wf_line {l : List Ln} (h : ∀ x ∈ l, WfE kLine x) {i : Nat} (hi : i < l.length) : (0 ≤ (at0 l i).1 ∧ (at0 l i).1 < 256) ∧ -9223372036854775808 ≤ (at0 l i).2.1 ∧ (at0 l i).2.1 < 9223372036854775808 := by
  have := h (at0 l i) (by have := at_get hi; exact List.mem_of_getElem? this)
  exact ⟨wf_u8 this.1, wf_i64 this.2.1⟩

def risesB (l : List Ln) (i : Nat) : Bool := Nat.beq i 0 || decide ((at0 l (i - 1)).1 < (at0 l i).1)
def goodA (s w a : Int) (l : List Ln) (i : Nat) : Bool := decide (1 ≤ (at0 l i).2.1) && risesB l i && keyB s w (at0 l i).1 a
def goodR (s : Int) (l : List Ln) (i : Nat) : Bool := decide ((at0 l i).1 < s) && decide (1 ≤ (at0 l i).2.1) && risesB l i

theorem stepGood_loop (s w : Int) (x : Stp) (hl : x.2.2.1.length < 1000) (hw : ∀ y ∈ x.2.2.1, WfE kLine y) (ha : 0 ≤ x.2.1 ∧ x.2.1 < 256) :
    iterL step_Good.l1 loopN ((s, (w, ((), (x.2.2.1, ((x.2.2.1.length : Int), 0))))), (x, ())) = some (bif allFrom (goodA s w x.2.1 x.2.2.1) 0 x.2.2.1.length then .inl () else .inr false) := by
  have := loop_all (step := step_Good.l1) (fun i => ((s, (w, ((), (x.2.2.1, ((x.2.2.1.length : Int), (i : Int)))))), (x, ()))) (goodA s w x.2.1 x.2.2.1) (.inl ()) (.inr false) x.2.2.1.length (by omega) (fun i hi => by
    have hw1 := wf_line hw hi
    unfold step_Good.l1 goodA
    simp only [dec_t (show (i : Int) < (x.2.2.1.length : Int) by omega), cond_true]
    rw [nthK_get (at_get hi)]
    by_cases q : (at0 x.2.2.1 i).2.1 < 1
    · rw [dec_t q, dec_f (by omega : ¬ 1 ≤ (at0 x.2.2.1 i).2.1)]; rfl
    · rw [dec_f q, dec_t (by omega : 1 ≤ (at0 x.2.2.1 i).2.1)]
      simp only [cond_false, Bool.true_and, key_good_val s w _ _ hw1.1 ha, Option.bind_some, succ_i64 (show i < 9223372036854775807 by omega)]
      unfold risesB
      cases i with
      | zero =>
        rw [dec_f (by omega : ¬ ((0 : Nat) : Int) > 0)]
        simp only [cond_false, Nat.beq_refl, Bool.true_or, Bool.true_and]
        cases keyB s w (at0 x.2.2.1 0).1 x.2.1 <;> rfl
      | succ i =>
        have e : IntKind.i64.wrap (((i + 1 : Nat) : Int) - 1) = (i : Int) := by rw [wrap_i64 (by omega) (by omega)]; omega
        rw [dec_t (by omega : ((i + 1 : Nat) : Int) > 0)]
        simp only [cond_true, e]
        rw [nthK_get (at_get (by omega : i < x.2.2.1.length))]
        rw [show Nat.beq (i + 1) 0 = false from rfl, Bool.false_or, Nat.add_sub_cancel]
        by_cases r : (at0 x.2.2.1 i).1 ≥ (at0 x.2.2.1 (i + 1)).1
        · rw [dec_t r, dec_f (by omega : ¬ (at0 x.2.2.1 i).1 < (at0 x.2.2.1 (i + 1)).1)]; rfl
        · rw [dec_f r, dec_t (by omega : (at0 x.2.2.1 i).1 < (at0 x.2.2.1 (i + 1)).1)]
          simp only [cond_false, Bool.true_and]
          cases keyB s w (at0 x.2.2.1 (i + 1)).1 x.2.1 <;> rfl) (by
    unfold step_Good.l1
    simp only [dec_f (show ¬ (x.2.2.1.length : Int) < (x.2.2.1.length : Int) by omega), cond_false])
  rw [show (((0 : Nat) : Int)) = 0 from rfl] at this
  exact this

/-- Which steps may be. -/
def goodS (s w : Int) (x : Stp) : Bool := fineS s w && decide (1 ≤ x.1) && decide (x.1 ≤ 8) && decide (1 ≤ x.2.2.1.length) && decide (x.2.2.1.length ≤ 3) && allFrom (goodR s x.2.2.1) 0 x.2.2.1.length && (bif decide (7 ≤ x.1) then x.2.1 == 0 else decide (x.2.1 < w))

theorem stepGood_val (s w : Int) (x : Stp) (hx : WfE kStep x) (hl : x.2.2.1.length < 1000) : step_Good s w x = some (goodS s w x) := by
  obtain ⟨h1, h2, ⟨_, h3⟩, _⟩ := hx
  have w2 := wf_u8 h2
  -- the loop's result, where there is something
  have key : 1 ≤ x.2.2.1.length → (allFrom (goodA s w x.2.1 x.2.2.1) 0 x.2.2.1.length = (fineS s w && allFrom (goodR s x.2.2.1) 0 x.2.2.1.length && decide (x.2.1 < w))) := fun hpos => boolEq (by
    simp only [Bool.and_eq_true, allFrom_iff, decide_eq_true_eq]
    unfold goodA goodR keyB
    simp only [Bool.and_eq_true, decide_eq_true_eq]
    constructor
    · intro h
      have h0 := h 0 (by omega) (by omega)
      exact ⟨⟨h0.2.1.1, fun j a b => by have := h j a b; exact ⟨⟨this.2.1.2, this.1.1⟩, this.1.2⟩⟩, h0.2.2⟩
    · rintro ⟨⟨h4, h5⟩, h6⟩ j a b
      have := h5 j a b
      exact ⟨⟨this.1.2, this.2⟩, ⟨h4, this.1.1⟩, h6⟩)
  unfold step_Good goodS
  by_cases c5 : x.1 < 1
  · rw [dec_t c5, dec_f (by omega : ¬ 1 ≤ x.1)]; simp
  by_cases c6 : x.1 > 8
  · rw [dec_f c5, dec_t c6, dec_f (by omega : ¬ x.1 ≤ 8)]; simp
  by_cases c7 : (x.2.2.1.length : Int) < 1
  · rw [dec_f c5, dec_f c6, dec_t c7, dec_f (by omega : ¬ 1 ≤ x.2.2.1.length)]; simp
  by_cases c8 : (x.2.2.1.length : Int) > 3
  · rw [dec_f c5, dec_f c6, dec_f c7, dec_t c8, dec_f (by omega : ¬ x.2.2.1.length ≤ 3)]; simp
  rw [dec_f c5, dec_f c6, dec_f c7, dec_f c8, dec_t (by omega : 1 ≤ x.1), dec_t (by omega : x.1 ≤ 8), dec_t (by omega : 1 ≤ x.2.2.1.length), dec_t (by omega : x.2.2.1.length ≤ 3)]
  simp only [cond_false, Bool.and_true]
  have hware : step_atWare x.1 = some (decide (x.1 < 7)) := by
    unfold step_atWare
    by_cases a : x.1 = 7
    · rw [show ((x.1 : Int) != 7) = false by simp [a], dec_f (by omega : ¬ x.1 < 7)]; rfl
    · rw [show ((x.1 : Int) != 7) = true by simp [a]]
      by_cases b : x.1 = 8
      · rw [show ((x.1 : Int) != 8) = false by simp [b], dec_f (by omega : ¬ x.1 < 7)]; rfl
      · rw [show ((x.1 : Int) != 8) = true by simp [b], dec_t (by omega : x.1 < 7)]; rfl
  rw [hware, Option.bind_some]
  have fin : ((some (Sum.inl ((s, (w, ())), (x, ()))) : Option (((Int × Int × Unit) × Stp × Unit) ⊕ Bool)).bind fun y12 => (match y12 with | .inl y13 => (iterL step_Good.l1 loopN ((y13.1.1, (y13.1.2.1, ((), (y13.2.1.2.2.1, ((y13.2.1.2.2.1.length : Int), 0))))), (y13.2.1, ()))).bind fun y19 => (match y19 with | .inl y20 => some true | .inr y21 => some y21) | .inr y14 => some y14)) =
      some (allFrom (goodA s w x.2.1 x.2.2.1) 0 x.2.2.1.length) := by
    simp only [Option.bind_some]
    rw [stepGood_loop s w x hl h3 w2, Option.bind_some]
    cases allFrom (goodA s w x.2.1 x.2.2.1) 0 x.2.2.1.length <;> rfl
  by_cases c9 : x.1 < 7
  · rw [dec_t c9, dec_f (by omega : ¬ 7 ≤ x.1)]
    simp only [Bool.not_true, cond_false]
    refine Eq.trans fin ?_
    rw [key (by omega)]
  · rw [dec_f c9, dec_t (by omega : 7 ≤ x.1)]
    simp only [Bool.not_false, cond_true]
    by_cases c10 : x.2.1 = 0
    · rw [show ((x.2.1 : Int) != 0) = false by simp [c10], show (x.2.1 == 0) = true by simp [c10]]
      simp only [cond_false]
      refine Eq.trans fin ?_
      rw [key (by omega), c10]
      congr 1
      refine boolEq ?_
      unfold fineS
      simp only [Bool.and_eq_true, decide_eq_true_eq]
      constructor
      · rintro ⟨a, b⟩; exact ⟨a, trivial⟩
      · rintro ⟨a, b⟩; exact ⟨a, by omega⟩
    · rw [show ((x.2.1 : Int) != 0) = true by simp [c10], show (x.2.1 == 0) = false by simp [c10]]
      simp

theorem key_good_any (s w kd k a : Int) (hf : fineS s w = true) (h1 : 1 ≤ kd ∧ kd ≤ 4) (hk : 0 ≤ k ∧ k < 256 ∧ k < s) (ha : 0 ≤ a ∧ a < 256) (h : (kd ≤ 2 ∧ a < w) ∨ (3 ≤ kd ∧ a = 0)) : key_Good s w (kd, (k, (a, ()))) = some true := by
  unfold key_Good
  rw [key_fine_val, hf]
  have e1 : IntKind.i64.wrap k = k := wrap_i64 (by omega) (by omega)
  have e2 : IntKind.i64.wrap a = a := wrap_i64 (by omega) (by omega)
  simp only [Option.bind_some, e1, e2, Bool.not_true, cond_false, dec_f (show ¬ kd < 1 by omega), dec_f (show ¬ kd > 4 by omega), dec_f (show ¬ k ≥ s by omega)]
  have kb : key_both kd = some (decide (kd ≤ 2)) := by
    unfold key_both
    by_cases q1 : kd = 1
    · subst q1; rfl
    · rw [show ((kd : Int) == 1) = false by simpa using q1]
      by_cases q2 : kd = 2
      · subst q2; rfl
      · rw [show ((kd : Int) == 2) = false by simpa using q2, dec_f (show ¬ kd ≤ 2 by omega)]; rfl
  rw [kb, Option.bind_some]
  rcases h with ⟨q1, q2⟩ | ⟨q1, q2⟩
  · rw [dec_t q1, dec_t q2]; rfl
  · rw [dec_f (show ¬ kd ≤ 2 by omega), q2]; rfl

theorem S_one : ∀ (l : List OpE), (l.map fun x => x.1).Nodup → ∀ x ∈ l, S l x.1 = x.2.1
  | [], _, x, hx => by cases hx
  | y :: l, hn, x, hx => by
    rw [List.map_cons, List.nodup_cons] at hn
    rw [S_cons]
    rcases List.mem_cons.1 hx with e | e
    · subst e
      rw [if_pos rfl]
      have : S l x.1 = 0 := by
        unfold S
        rw [dl_none fun z hz q => hn.1 (List.mem_map.2 ⟨z, hz, q⟩)]; rfl
      omega
    · rw [if_neg (fun q => hn.1 (List.mem_map.2 ⟨x, e, q.symm⟩)), Int.zero_add]
      exact S_one l hn.2 x e
theorem net_len {l : List OpE} (hl : l.length ≤ 1000) (hw : ∀ x ∈ l, -9223372036854775808 ≤ x.2.1 ∧ x.2.1 < 9223372036854775808) (hn : (l.map fun x => x.1).Nodup) (hz : ∀ x ∈ l, x.2.1 ≠ 0) : ∃ a, op_Net l = some (a, (true, ())) ∧ a.length = l.length := by
  obtain ⟨ks, hk, he⟩ := net_all hw hl
  have hp : ks.Perm (l.map fun x => x.1) := (List.perm_ext_iff_of_nodup (sorted_nodup hk.sorted) hn).2 fun k => (hk.mem k).trans ⟨fun ⟨x, hx, e⟩ => List.mem_map.2 ⟨x, hx, e⟩, fun h => let ⟨x, hx, e⟩ := List.mem_map.1 h; ⟨x, hx, e⟩⟩
  have hlen : ks.length = l.length := by rw [hp.length_eq, List.length_map]
  have hS : ∀ k ∈ ks, -9223372036854775808 ≤ S l k ∧ S l k < 9223372036854775808 ∧ S l k ≠ 0 := fun k hk' => by
    obtain ⟨x, hx, e⟩ := (hk.mem k).1 hk'
    subst e
    rw [S_one l hn x hx]
    exact ⟨(hw x hx).1, (hw x hx).2, hz x hx⟩
  rw [he]
  unfold netV
  rw [if_pos (List.all_eq_true.2 fun k hk' => by
    have := hS k hk'
    unfold fitsI
    rw [dec_t this.1, dec_t this.2.1]; rfl)]
  refine ⟨_, rfl, ?_⟩
  rw [← hlen]
  have : ∀ (ks : List KE), (∀ k ∈ ks, S l k ≠ 0) → (ks.filterMap (fun k => if S l k = 0 then none else some (k, (S l k, ())))).length = ks.length := by
    intro ks
    induction ks with
    | nil => intro _; rfl
    | cons k ks ih =>
      intro h
      rw [List.filterMap_cons_some (by rw [if_neg (h k List.mem_cons_self)]), List.length_cons, ih fun y hy => h y (List.mem_cons_of_mem _ hy), List.length_cons]
  exact this ks fun k hk' => (hS k hk').2.2

/-- What an item's additions are. -/
theorem one_ops {s w tg a : Int} {x : Ln} (hf : fineS s w = true) (ht : 1 ≤ tg ∧ tg ≤ 8) (hx : 0 ≤ x.1 ∧ x.1 < 256 ∧ x.1 < s) (ha : 0 ≤ a ∧ a < 256) (hc : (tg < 7 ∧ a < w) ∨ (7 ≤ tg ∧ a = 0)) (hq : 1 ≤ x.2.1 ∧ x.2.1 < 9223372036854775808) :
    1 ≤ (opsOne tg a x).length ∧ ((opsOne tg a x).map fun z => z.1).Nodup ∧ ∀ z ∈ opsOne tg a x, z.1.2.1 = x.1 ∧ key_Good s w z.1 = some true ∧ z.2.1 ≠ 0 := by
  have hn : negI x.2.1 = -x.2.1 := negI_val (by omega) (by omega)
  have g : ∀ kd b : Int, 1 ≤ kd ∧ kd ≤ 4 → (0 ≤ b ∧ b < 256) → ((kd ≤ 2 ∧ b < w) ∨ (3 ≤ kd ∧ b = 0)) → key_Good s w (kd, (x.1, (b, ()))) = some true := fun kd b h1 h2 h3 => key_good_any s w kd x.1 b hf h1 hx h2 h3
  have two : ∀ (k1 k2 b1 b2 d1 d2 : Int), k1 ≠ k2 → key_Good s w (k1, (x.1, (b1, ()))) = some true → key_Good s w (k2, (x.1, (b2, ()))) = some true → d1 ≠ 0 → d2 ≠ 0 → 1 ≤ ([addO k1 x.1 b1 d1, addO k2 x.1 b2 d2] : List OpE).length ∧ (([addO k1 x.1 b1 d1, addO k2 x.1 b2 d2] : List OpE).map fun z => z.1).Nodup ∧ ∀ z ∈ ([addO k1 x.1 b1 d1, addO k2 x.1 b2 d2] : List OpE), z.1.2.1 = x.1 ∧ key_Good s w z.1 = some true ∧ z.2.1 ≠ 0 := fun k1 k2 b1 b2 d1 d2 hne g1 g2 h1 h2 => ⟨by simp, by
    unfold addO
    simp [hne], fun z hz => by
    simp only [List.mem_cons, List.not_mem_nil, or_false] at hz
    rcases hz with e | e <;> subst e
    · exact ⟨rfl, g1, h1⟩
    · exact ⟨rfl, g2, h2⟩⟩
  have one : ∀ (k1 b1 d1 : Int), key_Good s w (k1, (x.1, (b1, ()))) = some true → d1 ≠ 0 → 1 ≤ ([addO k1 x.1 b1 d1] : List OpE).length ∧ (([addO k1 x.1 b1 d1] : List OpE).map fun z => z.1).Nodup ∧ ∀ z ∈ ([addO k1 x.1 b1 d1] : List OpE), z.1.2.1 = x.1 ∧ key_Good s w z.1 = some true ∧ z.2.1 ≠ 0 := fun k1 b1 d1 g1 h1 => ⟨by simp, by simp, fun z hz => by
    simp only [List.mem_cons, List.not_mem_nil, or_false] at hz
    subst hz
    exact ⟨rfl, g1, h1⟩⟩
  have h8 : tg = 1 ∨ tg = 2 ∨ tg = 3 ∨ tg = 4 ∨ tg = 5 ∨ tg = 6 ∨ tg = 7 ∨ tg = 8 := by omega
  rcases h8 with e | e | e | e | e | e | e | e <;> subst e
  · exact two 1 2 a a _ _ (by omega) (g 1 a (by omega) ha (by omega)) (g 2 a (by omega) ha (by omega)) (by omega) (by omega)
  · exact two 2 1 a a _ _ (by omega) (g 2 a (by omega) ha (by omega)) (g 1 a (by omega) ha (by omega)) (by omega) (by omega)
  · exact two 2 3 a 0 _ _ (by omega) (g 2 a (by omega) ha (by omega)) (g 3 0 (by omega) (by omega) (by omega)) (by omega) (by omega)
  · exact two 3 1 0 a _ _ (by omega) (g 3 0 (by omega) (by omega) (by omega)) (g 1 a (by omega) ha (by omega)) (by omega) (by omega)
  · exact one 1 a _ (g 1 a (by omega) ha (by omega)) (by omega)
  · exact one 1 a _ (g 1 a (by omega) ha (by omega)) (by omega)
  · exact one 4 0 _ (g 4 0 (by omega) (by omega) (by omega)) (by omega)
  · exact one 4 0 _ (g 4 0 (by omega) (by omega) (by omega)) (by omega)

theorem items_rise {s : Int} {l : List Ln} (h : allFrom (goodR s l) 0 l.length = true) (hl : l.length ≤ 3) : (l.map fun x => x.1).Nodup := by
  rw [allFrom_iff] at h
  match l, hl, h with
  | [], _, _ => simp
  | [a], _, _ => simp
  | [a, b], _, h =>
    have h1 := h 1 (by omega) (by simp)
    unfold goodR risesB at h1
    simp only [Bool.and_eq_true, Bool.or_eq_true, decide_eq_true_eq] at h1
    have : a.1 < b.1 := h1.2.resolve_left (by decide)
    simp; omega
  | [a, b, c], _, h =>
    have h1 := h 1 (by omega) (by simp)
    have h2 := h 2 (by omega) (by simp)
    unfold goodR risesB at h1 h2
    simp only [Bool.and_eq_true, Bool.or_eq_true, decide_eq_true_eq] at h1 h2
    have q1 : a.1 < b.1 := h1.2.resolve_left (by decide)
    have q2 : b.1 < c.1 := h2.2.resolve_left (by decide)
    simp; omega
  | _ :: _ :: _ :: _ :: _, hl, _ => simp only [List.length_cons] at hl; omega

theorem ops_all {s w tg a : Int} (hf : fineS s w = true) (ht : 1 ≤ tg ∧ tg ≤ 8) (ha : 0 ≤ a ∧ a < 256) (hc : (tg < 7 ∧ a < w) ∨ (7 ≤ tg ∧ a = 0)) : ∀ (l : List Ln), (l.map fun x => x.1).Nodup → (∀ x ∈ l, (0 ≤ x.1 ∧ x.1 < 256 ∧ x.1 < s) ∧ 1 ≤ x.2.1 ∧ x.2.1 < 9223372036854775808) →
    l.length ≤ (l.flatMap (opsOne tg a)).length ∧ ((l.flatMap (opsOne tg a)).map fun z => z.1).Nodup ∧ ∀ z ∈ l.flatMap (opsOne tg a), (∃ x ∈ l, z.1.2.1 = x.1) ∧ key_Good s w z.1 = some true ∧ z.2.1 ≠ 0
  | [], _, _ => ⟨by simp, by simp, fun z hz => by simp at hz⟩
  | x :: l, hn, hx => by
    rw [List.map_cons, List.nodup_cons] at hn
    obtain ⟨a1, a2, a3⟩ := ops_all hf ht ha hc l hn.2 fun y hy => hx y (List.mem_cons_of_mem _ hy)
    have hx0 := hx x List.mem_cons_self
    obtain ⟨b1, b2, b3⟩ := one_ops hf ht hx0.1 ha hc hx0.2
    rw [List.flatMap_cons]
    refine ⟨by rw [List.length_append, List.length_cons]; omega, ?_, fun z hz => ?_⟩
    · rw [List.map_append]
      refine List.nodup_append.2 ⟨b2, a2, fun k hk k' hk' e => ?_⟩
      obtain ⟨z, hz, e1⟩ := List.mem_map.1 hk
      obtain ⟨z', hz', e2⟩ := List.mem_map.1 hk'
      obtain ⟨⟨y, hy, e3⟩, -⟩ := a3 z' hz'
      have e4 := (b3 z hz).1
      refine hn.1 (List.mem_map.2 ⟨y, hy, ?_⟩)
      rw [← e3, ← e4, e1, e2, e]
    · rcases List.mem_append.1 hz with q | q
      · obtain ⟨c1, c2, c3⟩ := b3 z q
        exact ⟨⟨x, List.mem_cons_self, c1⟩, c2, c3⟩
      · obtain ⟨⟨y, hy, c1⟩, c2, c3⟩ := a3 z q
        exact ⟨⟨y, List.mem_cons_of_mem _ hy, c1⟩, c2, c3⟩

theorem neg_ok (l : List OpE) (h : ∀ x ∈ l, -9223372036854775808 < x.2.1 ∧ x.2.1 < 9223372036854775808) (hl : l.length ≤ 1000) : op_Neg l = some (((), (true, ())), (l.reverse.map negE, ())) := by
  rw [neg_all l (by omega)]
  have hn : negR l.reverse = (l.reverse.map negE, true) := by
    unfold negR
    rw [if_pos (negOk_iff.2 fun x hx => by have := h x (by simpa using hx); omega)]
  rw [hn]
theorem undo12_val (s : Stp) (hw : ∀ x ∈ s.2.2.1, -9223372036854775808 ≤ x.2.1 ∧ x.2.1 < 9223372036854775808) (hl : s.2.2.1.length ≤ 100) : step_Undo s = some ((opsOf s).reverse.map negE) := by
  have ho := opsOf_len s
  unfold step_Undo
  rw [ops_val s (by omega), Option.bind_some, neg_ok _ (opsOf_wf s hw) (by omega)]; rfl

theorem works12 : pledgelaw12_works = some true := by kernel_rfl
theorem StepUndoes (x0 : El (.int .i64)) (x1 : El (.int .i64)) (x2 : El kStep) (h0 : WfE (.int .i64) x0) (h1 : WfE (.int .i64) x1) (h2 : WfE kStep x2) : pledgelaw12_StepUndoes x0 x1 x2 = some true := by
  obtain ⟨st, est⟩ : ∃ st : Stp, st = x2 := ⟨_, rfl⟩
  obtain ⟨s, es⟩ : ∃ s : Int, s = x0 := ⟨_, rfl⟩
  obtain ⟨w, ew⟩ : ∃ w : Int, w = x1 := ⟨_, rfl⟩
  have h2' : WfE kStep st := by rw [est]; exact h2
  show pledgelaw12_StepUndoes (x0 : Int) (x1 : Int) (x2 : Stp) = some true
  rw [← est, ← es, ← ew]
  clear est es ew h0 h1 h2 x0 x1 x2
  have hw : ∀ x ∈ st.2.2.1, WfE kLine x := h2'.2.2.1.2
  have hq : ∀ x ∈ st.2.2.1, -9223372036854775808 ≤ x.2.1 ∧ x.2.1 < 9223372036854775808 := fun x hx => wf_i64 (hw x hx).2.1
  unfold pledgelaw12_StepUndoes pledgelaw12_few
  rw [Option.bind_some]
  by_cases hl : (st.2.2.1.length : Int) ≤ 20
  · rw [dec_t hl]
    simp only [Bool.not_true, cond_false]
    have ho := opsOf_len st
    have hL := opsOf_wf st hq
    obtain ⟨L, eL⟩ : ∃ L, L = opsOf st := ⟨_, rfl⟩
    have g1 : step_Ops st = some L := by rw [eL]; exact ops_val st (by omega)
    have g2 : step_Undo st = some (L.reverse.map negE) := by rw [eL]; exact undo12_val st hq (by omega)
    rw [← eL] at ho hL
    have g3 : op_Net (([] ++ L) ++ L.reverse.map negE) = some ([], (true, ())) := by
      rw [List.nil_append]
      refine net_zero (fun x hx => ?_) (by simp; omega) fun k => ?_
      · rcases List.mem_append.1 hx with q | q
        · have := hL x q; omega
        · obtain ⟨y, hy, e⟩ := List.mem_map.1 q
          have := hL y (by simpa using hy)
          rw [← e]
          show _ ≤ negI y.2.1 ∧ negI y.2.1 < _
          rw [negI_val this.1 this.2]; omega
      · rw [S_append, S_neg L.reverse k (fun x hx => hL x (by simpa using hx)), S_reverse]; omega
    refine (bind_of (f := _) g1).trans ?_
    refine (room_ok (show 0 + L.length ≤ 4294967296 by omega)).trans ?_
    refine (bind_of (f := _) g2).trans ?_
    refine (room_ok (show ([] ++ L).length + (L.reverse.map negE).length ≤ 4294967296 by simp; omega)).trans ?_
    refine (bind_of (f := _) g3).trans ?_
    simp only [Bool.not_true, cond_false, List.length_nil]
    have g4 := stepGood_val s w st h2' (by omega)
    refine (bind_of (f := _) g4).trans ?_
    cases hg : goodS s w st with
    | false =>
      simp only [Bool.not_false, cond_true]
      rw [works12]; rfl
    | true =>
      simp only [Bool.not_true, cond_false]
      unfold goodS at hg
      simp only [Bool.and_eq_true, decide_eq_true_eq] at hg
      obtain ⟨⟨⟨⟨⟨⟨b1, b2⟩, b3⟩, b4⟩, b5⟩, b6⟩, b7⟩ := hg
      have ha := wf_u8 h2'.2.1
      have hc : (st.1 < 7 ∧ st.2.1 < w) ∨ (7 ≤ st.1 ∧ st.2.1 = 0) := by
        by_cases q : 7 ≤ st.1
        · rw [dec_t q] at b7
          exact .inr ⟨q, by simpa using b7⟩
        · rw [dec_f q] at b7
          exact .inl ⟨by omega, by simpa using b7⟩
      have hitem : ∀ x ∈ st.2.2.1, (0 ≤ x.1 ∧ x.1 < 256 ∧ x.1 < s) ∧ 1 ≤ x.2.1 ∧ x.2.1 < 9223372036854775808 := fun x hx => by
        obtain ⟨i, hi⟩ := List.mem_iff_getElem?.1 hx
        have hil := (List.getElem?_eq_some_iff.1 hi).1
        have := allFrom_iff.1 b6 i (by omega) (by omega)
        have e : at0 st.2.2.1 i = x := by have := at_get hil; rw [hi] at this; exact (Option.some.inj this).symm
        unfold goodR at this
        rw [e] at this
        simp only [Bool.and_eq_true, decide_eq_true_eq] at this
        have w1 := wf_u8 (hw x hx).1
        exact ⟨⟨w1.1, w1.2, this.1.1⟩, this.1.2, (hq x hx).2⟩
      have eflat : L = st.2.2.1.flatMap (opsOne st.1 st.2.1) := by
        rw [eL]
        unfold opsOf
        have : ∀ (l : List Ln), (∀ x ∈ l, 1 ≤ x.2.1) → l.flatMap (opsItem st) = l.flatMap (opsOne st.1 st.2.1) := by
          intro l
          induction l with
          | nil => intro _; rfl
          | cons x l ih =>
            intro h
            rw [List.flatMap_cons, List.flatMap_cons, ih fun y hy => h y (List.mem_cons_of_mem _ hy)]
            congr 1
            unfold opsItem
            rw [dec_t (show x.2.1 ≥ 1 from h x List.mem_cons_self)]; rfl
        exact this _ fun x hx => (hitem x hx).2.1
      obtain ⟨c1, c2, c3⟩ := ops_all b1 ⟨b2, b3⟩ ha hc st.2.2.1 (items_rise b6 b5) hitem
      rw [← eflat] at c1 c2 c3
      obtain ⟨A, g5, hA⟩ := net_len (l := L) (by omega) (fun x hx => by have := hL x hx; omega) c2 fun x hx => (c3 x hx).2.2
      have hlp := loop_all (step := pledgelaw12_StepUndoes.l1) (fun i => ((s, (w, ((), (L, (A, (true, (i : Int))))))), (st, ()))) (fun _ => true) (.inl (((), (L, (A, true))), (st, ()))) (.inr false) L.length (by omega) (fun i hi => by
        unfold pledgelaw12_StepUndoes.l1
        have hx : L[i]? = some L[i] := List.getElem?_eq_getElem hi
        have hm := c3 L[i] (List.getElem_mem _)
        simp only [dec_t (show (i : Int) < (L.length : Int) by omega), cond_true]
        rw [nthK_get hx]
        refine (bind_of (f := _) hm.2.1).trans ?_
        simp only [Bool.not_true, cond_false]
        rw [nthK_get hx, show ((L[i].2.1 : Int) == 0) = false by simpa using hm.2.2]
        simp only [cond_false]
        rw [succ_i64 (by omega)]) (by
        unfold pledgelaw12_StepUndoes.l1
        simp only [dec_f (show ¬ (L.length : Int) < (L.length : Int) by omega), cond_false])
      have ht : allFrom (fun _ => true) 0 L.length = true := by rw [allFrom_iff]; intros; rfl
      rw [show (((0 : Nat) : Int)) = 0 from rfl, ht] at hlp
      refine (bind_of (f := _) g5).trans ((bind_of (f := _) hlp).trans ?_)
      simp only [cond_true]
      rw [show (((A.length : Int) : Int) == (L.length : Int)) = true by rw [hA]; simp, dec_t (show (L.length : Int) ≥ (st.2.2.1.length : Int) by omega), dec_t (show (L.length : Int) ≤ 6 by omega)]
      simp only [cond_true]
      rw [works12]; rfl
  · rw [dec_f hl]
    simp only [Bool.not_false, cond_true]
    rw [works12]; rfl
end Go.Proofs.Pure
