/- The law CourseSame. -/
import Derived.Test.YtkipelkedgckoaaRefGood
set_option linter.unusedVariables false
namespace Go.Proofs.Pure
open Go.Proofs.D Go.Proofs.F

abbrev Crs := Int × Prg × Bool × Int × Int × Int × Unit
theorem sameP_val (x y : Prg) (h1 : x.2.2.2.1.length < 1000) (h2 : x.2.2.2.2.1.length < 1000) (h3 : x.2.2.2.2.2.1.length < 1000) : prog_Same x y = some (sameP x y) := by
  unfold prog_Same sameP
  rw [equal_val _ _ h1, equalT_val _ _ h2, equal_val _ _ h3]
  simp only [Option.bind_some]
  simp only [cond_some, cond_no]

def sameC (x y : Crs) : Bool := (x.1 == y.1) && (sameP x.2.1 y.2.1 && ((x.2.2.1 == y.2.2.1) && ((x.2.2.2.1 == y.2.2.2.1) && ((x.2.2.2.2.1 == y.2.2.2.2.1) && (x.2.2.2.2.2.1 == y.2.2.2.2.2.1)))))
theorem sameC_refl (x : Crs) : sameC x x = true := by unfold sameC; simp [sameP_refl]
theorem sameC_val (x y : Crs) (h1 : x.2.1.2.2.2.1.length < 1000) (h2 : x.2.1.2.2.2.2.1.length < 1000) (h3 : x.2.1.2.2.2.2.2.1.length < 1000) : course_Same x y = some (sameC x y) := by
  unfold course_Same sameC
  rw [sameP_val _ _ h1 h2 h3]
  simp only [Option.bind_some]
  cases x.1 == y.1 <;> cases sameP x.2.1 y.2.1 <;> cases x.2.2.1 == y.2.2.1 <;> cases x.2.2.2.1 == y.2.2.2.1 <;> cases x.2.2.2.2.1 == y.2.2.2.2.1 <;> rfl
theorem refSameC_val (x y : Crs) (h1 : x.2.1.2.2.2.1.length < 1000) (h2 : x.2.1.2.2.2.2.1.length < 1000) (h3 : x.2.1.2.2.2.2.2.1.length < 1000) : pledgeref20_Same x y = some (sameC x y) := by
  unfold pledgeref20_Same sameC
  rw [refSameP_val _ _ h1 h2 h3]
  simp only [Option.bind_some]
  cases x.1 == y.1 <;> cases sameP x.2.1 y.2.1 <;> cases x.2.2.1 == y.2.2.1 <;> cases x.2.2.2.1 == y.2.2.2.1 <;> cases x.2.2.2.2.1 == y.2.2.2.2.1 <;> rfl

abbrev Tx := Int × Int × Int × Bool × Bool × List ((Int × Int × Int × Unit) × Int × Unit) × Int × Int × Unit
theorem few13_any (p : Prg) : pledgelaw13_Few p = some 0 ∨ (pledgelaw13_Few p = some 1 ∧ p.2.2.2.1.length ≤ 20 ∧ p.2.2.2.2.1.length ≤ 30 ∧ p.2.2.2.2.2.1.length ≤ 20) := by
  unfold pledgelaw13_Few pledgelaw13_isFew
  by_cases h1 : (p.2.2.2.1.length : Int) ≤ 20
  · rw [dec_t h1]
    by_cases h2 : (p.2.2.2.2.1.length : Int) ≤ 30
    · rw [dec_t h2]
      by_cases h3 : (p.2.2.2.2.2.1.length : Int) ≤ 20
      · rw [dec_t h3]; exact .inr ⟨rfl, by omega, by omega, by omega⟩
      · rw [dec_f h3]; exact .inl rfl
    · rw [dec_f h2]; exact .inl rfl
  · rw [dec_f h1]; exact .inl rfl
theorem few20_any (c : Crs) (t : Tx) : pledgelaw20_Few c t = some 0 ∨ (pledgelaw20_Few c t = some 1 ∧ (c.2.1.2.2.2.1.length ≤ 20 ∧ c.2.1.2.2.2.2.1.length ≤ 30 ∧ c.2.1.2.2.2.2.2.1.length ≤ 20) ∧ t.2.2.2.2.2.1.length ≤ 20) := by
  unfold pledgelaw20_Few pledgelaw20_isFew
  rcases few13_any c.2.1 with e | ⟨e, h⟩
  · rw [e]; exact .inl rfl
  · rw [e]
    by_cases h1 : (t.2.2.2.2.2.1.length : Int) ≤ 20
    · simp only [Option.bind_some, dec_t h1]; exact .inr ⟨rfl, h, by omega⟩
    · simp only [Option.bind_some, dec_f h1]; exact .inl rfl
theorem works20 : pledgelaw20_works = some true := by kernel_rfl

theorem CourseSame (x0 x1 : Crs) (hx0 : WfE kCourse x0) (hx1 : WfE kCourse x1) : pledgelaw20_CourseSame x0 x1 = some true := by
  unfold pledgelaw20_CourseSame
  rw [works20]
  rcases few20_any x0 (0, (0, (0, (false, (false, ([], (0, (0, ())))))))) with e | ⟨e, ⟨a, b, c⟩, _⟩
  · rw [e]; rfl
  rcases few20_any x1 (0, (0, (0, (false, (false, ([], (0, (0, ())))))))) with e1 | ⟨e1, _, _⟩
  · rw [e, e1]; rfl
  rw [e, e1, sameC_val x0 x1 (by omega) (by omega) (by omega), refSameC_val x0 x1 (by omega) (by omega) (by omega), sameC_val x0 x0 (by omega) (by omega) (by omega), sameC_refl]
  simp
end Go.Proofs.Pure
