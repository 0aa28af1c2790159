/- Which orders may be: the program's way and the document's. -/
import Derived.Test.YtmhbfandkefnaaaOrderGood
import Derived.Test.YtmhbfandkefnaaaCovered
set_option linter.unusedVariables false
namespace Go.Proofs.Pure
open Go.Proofs.D Go.Proofs.F

structure FewO (x : Ord) : Prop where
  wf : WfE kOrder x
  lines : x.2.2.1.length ≤ 100
  held : x.2.2.2.1.length ≤ 100
  sent : x.2.2.2.2.1.length ≤ 100
  owes : x.2.2.2.2.2.1.length ≤ 100
theorem FewO.w1 {x : Ord} (h : FewO x) : ∀ y ∈ x.2.2.1, WfE kLine y := h.wf.2.2.1.2
theorem FewO.w2 {x : Ord} (h : FewO x) : ∀ y ∈ x.2.2.2.1, WfE kTake y := h.wf.2.2.2.1.2
theorem FewO.w3 {x : Ord} (h : FewO x) : ∀ y ∈ x.2.2.2.2.1, WfE kTake y := h.wf.2.2.2.2.1.2
theorem FewO.w4 {x : Ord} (h : FewO x) : ∀ y ∈ x.2.2.2.2.2.1, WfE kLine y := h.wf.2.2.2.2.2.1.2

theorem ref22Takes_val (id : Int) (l : List Tk) (hl : l.length < 1000) : pledgeref22_takes id l = some (takesO id l) := by
  unfold pledgeref22_takes takesO
  have := loop_all (step := pledgeref22_takes.l1) (fun i => (id, (l, (i : Int)))) (takeQ 4 4 id l) (.inl ()) (.inr false) l.length (by omega) (fun i hi => by
    have hg := at1_get hi
    unfold pledgeref22_takes.l1 takeQ tkBase
    simp only [dec_t (show (i : Int) < (l.length : Int) by omega), cond_true]
    have w3 := succ_i64 (show i < 9223372036854775807 by omega)
    rw [nthK_get hg, nthK_get hg, nthK_get hg, nthK_get hg, w3]
    cases ((at1 l i).1 != id) with
    | true => rfl
    | false =>
      cases decide ((at1 l i).2.1 ≥ 4) with
      | true => rfl
      | false =>
        cases decide ((at1 l i).2.2.1 ≥ 4) with
        | true => rfl
        | false =>
          cases decide ((at1 l i).2.2.2.1 < 1) with
          | true => rfl
          | false =>
            simp only [cond_false, Bool.not_false, Bool.true_and]
            cases i with
            | zero => rfl
            | succ i =>
              rw [dec_t (by omega : ((i + 1 : Nat) : Int) > 0), pred_i64 (by omega)]
              have hi' := at1_get (by omega : i < l.length)
              simp only [cond_true]
              rw [nthK_get hi', nthK_get hg, nthK_get hi', nthK_get hg, nthK_get hi', nthK_get hg, show Nat.beq (i + 1) 0 = false from rfl, Nat.add_sub_cancel]
              unfold tkPrev
              cases decide ((at1 l i).2.2.1 > (at1 l (i + 1)).2.2.1) <;> cases ((at1 l i).2.2.1 == (at1 l (i + 1)).2.2.1) <;> cases decide ((at1 l i).2.1 ≥ (at1 l (i + 1)).2.1) <;> rfl) (by
    unfold pledgeref22_takes.l1
    simp only [dec_f (show ¬ (l.length : Int) < (l.length : Int) by omega), cond_false])
  rw [show (((0 : Nat) : Int)) = 0 from rfl] at this
  rw [this, Option.bind_some]
  cases allFrom (takeQ 4 4 id l) 0 l.length <;> rfl

def namedR (x : Ord) (k : Nat) : Bool := (sumOf (namedOf k (x.2.2.2.1 ++ x.2.2.2.2.1) x.2.2.2.2.2.1)).2.1 && !decide ((sumOf (namedOf k (x.2.2.2.1 ++ x.2.2.2.2.1) x.2.2.2.2.2.1)).1 > firstOf k x.2.2.1)
def goodO (x : Ord) : Bool := !(x.1 == 0) && (!decide (x.2.1 > 1) && (!((x.2.2.1.length : Int) == 0) && (linesB 4 x.2.2.1 && (linesB 4 x.2.2.2.2.2.1 && (takesO x.1 x.2.2.2.1 && (takesO x.1 x.2.2.2.2.1 && allFrom (namedR x) 0 4))))))

theorem orderGood_val (x : Ord) (h : FewO x) : order_Good x = some (goodO x) := by
  have l1 := h.lines; have l2 := h.held; have l3 := h.sent; have l4 := h.owes
  have run := loop_all (step := order_Good.l1) (fun k => (((), (k : Int)), (x, ()))) (namedR x) (.inl ()) (.inr false) 4 (by omega) (fun k hk => by
    unfold order_Good.l1 namedR
    simp only [dec_t (by omega : (k : Int) < 4), cond_true]
    rw [named_val x k (by omega) (by omega) (by omega) h.w2 h.w3 h.w4, Option.bind_some, first_val _ _ (by omega), Option.bind_some, wrap_u8 (by omega) (by omega)]
    cases (sumOf (namedOf (k : Int) (x.2.2.2.1 ++ x.2.2.2.2.1) x.2.2.2.2.2.1)).2.1 with
    | false => rfl
    | true => cases decide ((sumOf (namedOf (k : Int) (x.2.2.2.1 ++ x.2.2.2.2.1) x.2.2.2.2.2.1)).1 > firstOf (k : Int) x.2.2.1) <;> rfl) rfl
  rw [show (((0 : Nat) : Int)) = 0 from rfl] at run
  unfold order_Good goodO
  rw [run, orderLines_val _ (by omega) h.w1, orderLines_val _ (by omega) h.w4, orderTakes_val _ _ (by omega), orderTakes_val _ _ (by omega)]
  simp only [Option.bind_some]
  cases (x.1 == 0) <;> cases decide (x.2.1 > 1) <;> cases ((x.2.2.1.length : Int) == 0) <;> cases linesB 4 x.2.2.1 <;> cases linesB 4 x.2.2.2.2.2.1 <;> cases takesO x.1 x.2.2.2.1 <;> cases takesO x.1 x.2.2.2.2.1 <;> cases allFrom (namedR x) 0 4 <;> rfl

/-- The first line of an article is the only one. -/
theorem first_want {l : List Ln} (h : linesB 4 l = true) (hw : ∀ x ∈ l, WfE kLine x) (k : Nat) (hk : k < 4) : firstOf k l = (wantOf l).getD k 0 := by
  have hlt := linesB_lt h
  have hz : (List.replicate 4 (0 : Int)).getD k 0 = 0 := by
    match k, hk with
    | 0, _ => rfl
    | 1, _ => rfl
    | 2, _ => rfl
    | 3, _ => rfl
  have hb : ∀ x ∈ l, 0 ≤ x.1 ∧ x.1 < 4 := fun x hx => ⟨(wf_u8 (hw x hx).1).1, (hlt x hx).1⟩
  have eqk : ∀ x : Ln, 0 ≤ x.1 → ((x.1 == (k : Int)) = decide (x.1.toNat = k)) := fun x h0 => by
    by_cases q : x.1 = (k : Int)
    · rw [dec_t (by omega), beq_iff_eq]; exact q
    · rw [dec_f (by omega), beq_eq_false_iff_ne]; exact q
  have f1 : ∀ (a : Ln) (r : List Ln), 0 ≤ a.1 → firstOf k (a :: r) = if a.1.toNat = k then a.2.1 else firstOf k r := by
    intro a r h0
    simp only [firstOf, firstF, walkL]
    rw [eqk a h0]
    by_cases q : a.1.toNat = k
    · rw [dec_t q, if_pos q]; rfl
    · rw [dec_f q, if_neg q]
      have : ∀ (r : List Ln) (i j : Nat), walkL (firstF (k : Int)) (fun _ => .inl ()) i r () = walkL (firstF (k : Int)) (fun _ => .inl ()) j r () := by
        intro r
        induction r with
        | nil => intro i j; rfl
        | cons b r ih =>
          intro i j
          simp only [walkL]
          have e : firstF (k : Int) i b () = firstF (k : Int) j b () := rfl
          rw [e]
          cases firstF (k : Int) j b () with
          | inr q => rfl
          | inl q => exact ih (i + 1) (j + 1)
      simp only [cond_false]
      rw [this r (0 + 1) 0]
  have f0 : firstOf k ([] : List Ln) = 0 := rfl
  rcases linesB_shape h with e | ⟨a, e⟩ | ⟨a, b, e, h1⟩ | ⟨a, b, c, e, h1, h2⟩ <;> subst e
  · rw [f0]; show 0 = (List.replicate 4 (0 : Int)).getD k 0; rw [hz]
  · have ha := hb a (by simp)
    simp only [wantOf, List.foldl_cons, List.foldl_nil]
    rw [f1 a _ ha.1, f0, set_at _ _ _ _ (by simp) (by omega), hz]
  · have ha := hb a (by simp)
    have hb' := hb b (by simp)
    simp only [wantOf, List.foldl_cons, List.foldl_nil]
    rw [f1 a _ ha.1, f1 b _ hb'.1, f0, set_at _ _ _ _ (by simp) (by omega), set_at _ _ _ _ (by simp) (by omega), hz]
    by_cases q : a.1.toNat = k
    · rw [if_pos q, if_neg (by omega), if_pos q]
    · rw [if_neg q, if_neg q]
  · have ha := hb a (by simp)
    have hb' := hb b (by simp)
    have hc := hb c (by simp)
    simp only [wantOf, List.foldl_cons, List.foldl_nil]
    rw [f1 a _ ha.1, f1 b _ hb'.1, f1 c _ hc.1, f0, set_at _ _ _ _ (by simp) (by omega), set_at _ _ _ _ (by simp) (by omega), set_at _ _ _ _ (by simp) (by omega), hz]
    by_cases q : a.1.toNat = k
    · rw [if_pos q, if_neg (by omega), if_neg (by omega), if_pos q]
    · rw [if_neg q, if_neg q]
      by_cases r : b.1.toNat = k
      · rw [if_pos r, if_neg (by omega), if_pos r]
      · rw [if_neg r, if_neg r]

theorem ref22Good_val (x : Ord) (h : FewO x) : pledgeref22_Good x = some (goodO x) := by
  have l1 := h.lines; have l2 := h.held; have l3 := h.sent; have l4 := h.owes
  unfold pledgeref22_Good goodO
  rw [refLines_val 4 _ (by omega) h.w1, refLines_val 4 _ (by omega) h.w4, ref22Takes_val _ _ (by omega), ref22Takes_val _ _ (by omega)]
  simp only [Option.bind_some]
  cases c : linesB 4 x.2.2.1 with
  | false => cases (x.1 == 0) <;> cases decide (x.2.1 > 1) <;> cases ((x.2.2.1.length : Int) == 0) <;> rfl
  | true =>
    have run := loop_all (step := pledgeref22_Good.l1) (fun k => (((), (k : Int)), (x, ()))) (namedR x) (.inl ()) (.inr false) 4 (by omega) (fun k hk => by
      unfold pledgeref22_Good.l1 namedR
      have e : IntKind.u8.wrap (k : Int) = (k : Int) := wrap_u8 (by omega) (by omega)
      simp only [dec_t (by omega : (k : Int) < 4), cond_true, e]
      rw [refnamed_val x k (by omega) (by omega) (by omega) h.w2 h.w3 h.w4, Option.bind_some, refNamed_val _ _ _ (by simp) (by omega) (by simp) h.w1, Option.bind_some]
      have en : namedOf (k : Int) [] x.2.2.1 = x.2.2.1.flatMap (ofLine k) := rfl
      rw [en, want_line c (by omega) h.w1 k hk, succ_i64 (by omega), first_want c h.w1 k hk]
      cases (sumOf (namedOf (k : Int) (x.2.2.2.1 ++ x.2.2.2.2.1) x.2.2.2.2.2.1)).2.1 with
      | false => rfl
      | true => cases decide ((sumOf (namedOf (k : Int) (x.2.2.2.1 ++ x.2.2.2.2.1) x.2.2.2.2.2.1)).1 > (wantOf x.2.2.1).getD k 0) <;> rfl) rfl
    rw [show (((0 : Nat) : Int)) = 0 from rfl] at run
    rw [run]
    simp only [Option.bind_some]
    cases (x.1 == 0) <;> cases decide (x.2.1 > 1) <;> cases ((x.2.2.1.length : Int) == 0) <;> cases linesB 4 x.2.2.2.2.2.1 <;> cases takesO x.1 x.2.2.2.1 <;> cases takesO x.1 x.2.2.2.2.1 <;> cases allFrom (namedR x) 0 4 <;> rfl
end Go.Proofs.Pure
