/- The law CourseDoes. -/
import Derived.Test.YtkipelkedgckoaaCourseDo
set_option linter.unusedVariables false
namespace Go.Proofs.Pure
open Go.Proofs.D Go.Proofs.F

def sameC (x y : Crs) : Bool := (x.1 == y.1) && (sameP x.2.1 y.2.1 && ((x.2.2.1 == y.2.2.1) && ((x.2.2.2.1 == y.2.2.2.1) && ((x.2.2.2.2.1 == y.2.2.2.2.1) && (x.2.2.2.2.2.1 == y.2.2.2.2.2.1)))))
theorem sameC_refl (x : Crs) : sameC x x = true := by unfold sameC; simp [sameP_refl]
theorem refSameC_val (x y : Crs) (h1 : x.2.1.2.2.2.1.length < 1000) (h2 : x.2.1.2.2.2.2.1.length < 1000) (h3 : x.2.1.2.2.2.2.2.1.length < 1000) : pledgeref20_Same x y = some (sameC x y) := by
  unfold pledgeref20_Same sameC
  rw [refSameP_val _ _ h1 h2 h3]
  simp only [Option.bind_some]
  cases x.1 == y.1 <;> cases sameP x.2.1 y.2.1 <;> cases x.2.2.1 == y.2.2.1 <;> cases x.2.2.2.1 == y.2.2.2.1 <;> cases x.2.2.2.2.1 == y.2.2.2.2.1 <;> rfl

abbrev Tx := Int × Int × Int × Bool × Bool × List ((Int × Int × Int × Unit) × Int × Unit) × Int × Int × Unit
theorem few13_any (p : Prg) : pledgelaw13_Few p = some 0 ∨ (pledgelaw13_Few p = some 1 ∧ p.2.2.2.1.length ≤ 20 ∧ p.2.2.2.2.1.length ≤ 30 ∧ p.2.2.2.2.2.1.length ≤ 20) := by
  unfold pledgelaw13_Few pledgelaw13_isFew
  by_cases h1 : (p.2.2.2.1.length : Int) ≤ 20
  · rw [dec_t h1]
    by_cases h2 : (p.2.2.2.2.1.length : Int) ≤ 30
    · rw [dec_t h2]
      by_cases h3 : (p.2.2.2.2.2.1.length : Int) ≤ 20
      · rw [dec_t h3]; exact .inr ⟨rfl, by omega, by omega, by omega⟩
      · rw [dec_f h3]; exact .inl rfl
    · rw [dec_f h2]; exact .inl rfl
  · rw [dec_f h1]; exact .inl rfl
theorem few20_any (c : Crs) (t : Tx) : pledgelaw20_Few c t = some 0 ∨ (pledgelaw20_Few c t = some 1 ∧ (c.2.1.2.2.2.1.length ≤ 20 ∧ c.2.1.2.2.2.2.1.length ≤ 30 ∧ c.2.1.2.2.2.2.2.1.length ≤ 20) ∧ t.2.2.2.2.2.1.length ≤ 20) := by
  unfold pledgelaw20_Few pledgelaw20_isFew
  rcases few13_any c.2.1 with e | ⟨e, h⟩
  · rw [e]; exact .inl rfl
  · rw [e]
    by_cases h1 : (t.2.2.2.2.2.1.length : Int) ≤ 20
    · simp only [Option.bind_some, dec_t h1]; exact .inr ⟨rfl, h, by omega⟩
    · simp only [Option.bind_some, dec_f h1]; exact .inl rfl
theorem works20 : pledgelaw20_works = some true := by kernel_rfl


theorem CourseDoes (x0 : Crs) (x1 : Rc) (hx0 : WfE kCourse x0) (hx1 : WfE kRec x1) : pledgelaw20_CourseDoes x0 x1 = some true := by
  unfold pledgelaw20_CourseDoes
  rw [works20]
  rcases few20_any x0 (0, (0, (0, (false, (false, ([], (0, (0, ())))))))) with e | ⟨e, ⟨a, b, c⟩, _⟩
  · rw [e]; rfl
  rcases few13_any x1.2.2.2.2.2.2.2.2.1 with e1 | ⟨e1, a1, b1, c1⟩
  · rw [e, e1]; rfl
  have hc : Few x0.2.1 := ⟨hx0.2.1, by omega, by omega, by omega⟩
  have hr : FewR x1 := ⟨⟨hx1.2.2.2.2.2.2.2.2.1, by omega, by omega, by omega⟩, wf_u8 hx1.2.2.2.2.2.1.2.1, wf_u8 hx1.2.2.2.2.2.1.2.2.1, (wf_i64 hx1.2.2.2.2.2.2.1).1⟩
  obtain ⟨z, z1, z2, z3⟩ := apply_both x0 x1 hc hr (wf_u8 hx1.2.2.2.1) (wf_i64 hx0.2.2.2.2.1).2
  obtain ⟨y, y1, y2, y3⟩ := start_both x1 hr
  have sz : pledgeref20_Same z.1 z.1 = some true := by
    rw [refSameC_val z.1 z.1 (by rw [z3]; omega) (by rw [z3]; omega) (by rw [z3]; omega), sameC_refl]
  have sy : pledgeref20_Same y.1 y.1 = some true := by
    have hl : y.1.2.1.2.2.2.1.length < 1000 ∧ y.1.2.1.2.2.2.2.1.length < 1000 ∧ y.1.2.1.2.2.2.2.2.1.length < 1000 := by
      rcases y3 with q | q
      · rw [q]; exact ⟨by decide, by decide, by decide⟩
      · rw [q]; exact ⟨by omega, by omega, by omega⟩
    rw [refSameC_val y.1 y.1 hl.1 hl.2.1 hl.2.2, sameC_refl]
  rw [e, e1, z1, z2, y1, y2, goodC_val x0 hc, refGoodC_val x0 hc]
  simp only [Option.bind_some, show ((1 : Int) == 0) = false from rfl, cond_false, sz, sy, cond_true, beq_self_eq_true]
end Go.Proofs.Pure
