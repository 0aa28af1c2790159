/- The law OrderDoes. -/
import Derived.Test.YtmhbfandkefnaaaTurns
import Derived.Test.YtmhbfandkefnaaaPureOrderPlaces
set_option linter.unusedVariables false
namespace Go.Proofs.Pure
open Go.Proofs.D Go.Proofs.F

theorem few22_val (x : Ord) (h : WfE kOrder x) : pledgelaw22_Few x = some 0 ∨ (pledgelaw22_Few x = some 1 ∧ FewO x ∧ x.2.2.1.length ≤ 20 ∧ x.2.2.2.1.length ≤ 30 ∧ x.2.2.2.2.1.length ≤ 30 ∧ x.2.2.2.2.2.1.length ≤ 20) := by
  rcases few_val x with e | ⟨e, a, b, c, d⟩
  · exact .inl e
  · exact .inr ⟨e, ⟨h, by omega, by omega, by omega, by omega⟩, a, b, c, d⟩

/-- The order behind a program, or a filling: few things in it; good, if it was. -/
theorem apply_stays {x : Ord} {p : Prg} (h : FewO x) (b : x.2.2.2.1.length ≤ 30) (c : x.2.2.2.2.1.length ≤ 30) : FewO (applyO x p).1 ∧ (goodO x = true → goodO (applyO x p).1 = true) := by
  rcases apply_cases x p with ⟨e, _⟩ | ⟨hg, _, _, e⟩
  · rw [e]; exact ⟨h, fun q => q⟩
  · have hG := good_of h hg
    rcases e with ⟨_, e⟩ | ⟨_, e⟩ | ⟨_, e⟩ <;> rw [e]
    · exact ⟨cancelled_few h, fun _ => of_good (cancelled_good hG)⟩
    · exact ⟨shipped_few h hG (by omega), fun _ => of_good (shipped_good h hG).1⟩
    · exact ⟨returned_few h, fun _ => of_good (returned_good hG)⟩
theorem fill_stays {x : Ord} {t : Tk} (h : FewO x) (hw : WfE kTake t) (b : x.2.2.2.1.length ≤ 30) : FewO (fillO x t).1 ∧ (goodO x = true → goodO (fillO x t).1 = true) := by
  rcases fill_cases x t with ⟨e, _⟩ | ⟨hg, hb, ho, e⟩
  · rw [e]; exact ⟨h, fun q => q⟩
  · have hG := good_of h hg
    have hv := (base_valid hw).1 hb
    rw [e]
    exact ⟨filled_few h hw (by omega) hG hv ho, fun _ => of_good (filled_good h hG hv ho).1⟩

theorem OrderDoes (x0 : Ord) (x1 : Prg) (x2 : Tk) (hx0 : WfE kOrder x0) (hx1 : WfE kProgram x1) (hx2 : WfE kTake x2) : pledgelaw22_OrderDoes x0 x1 x2 = some true := by
  unfold pledgelaw22_OrderDoes
  rcases few22_val x0 hx0 with e | ⟨e, h, a, b, c, d⟩
  · rw [e, works22]; rfl
  rcases few13_val x1 hx1 with e' | ⟨e', hp, _⟩
  · rw [e, e', works22]; rfl
  obtain ⟨s1, s2⟩ := apply_stays (p := x1) h b c
  obtain ⟨s3, s4⟩ := fill_stays h hx2 b
  have l1 := s1.lines; have l2 := s1.held; have l3 := s1.sent; have l4 := s1.owes
  have m1 := s3.lines; have m2 := s3.held; have m3 := s3.sent; have m4 := s3.owes
  rw [e, e', works22, apply_val x0 x1 h hp, refApply_val x0 x1 h hp, fill_val x0 x2 h hx2, refFill_val x0 x2 h hx2, orderGood_val x0 h, ref22Good_val x0 h]
  simp only [Option.bind_some, show ((1 : Int) == 0) = false by decide, cond_false]
  rw [refsame_val _ _ (by omega) (by omega) (by omega) (by omega), refsame_val _ _ (by omega) (by omega) (by omega) (by omega), sameO_refl, sameO_refl, orderGood_val _ s1, orderGood_val _ s3]
  simp only [Option.bind_some, Bool.not_true, cond_false, bne_self_eq_false, beq_self_eq_true]
  cases hg : goodO x0 with
  | false => rfl
  | true => rw [s2 hg, s4 hg]; rfl
end Go.Proofs.Pure
