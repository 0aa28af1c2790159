/- The law StoreDoes. -/
import Derived.Test.YtlmponhpepcllaaStoBase2
set_option linter.unusedVariables false
namespace Go.Proofs.Pure
open Go.Proofs.D Go.Proofs.F

theorem StoreDoes (x0 : Sto) (x1 : Prg) (x2 : Int) (hx0 : WfE kStore x0) (hx1 : WfE kProgram x1) (hx2 : WfE (.int .u32) x2) : pledgelaw24_StoreDoes x0 x1 x2 = some true := by
  unfold pledgelaw24_StoreDoes
  rcases few24_val x0 hx0 with e | ⟨e, h⟩
  · rw [e, works24]; rfl
  rcases few13_val x1 hx1 with e' | ⟨e', hp, _⟩
  · rw [e, e', works24]; rfl
  have ha := apply_few h.fs hp
  have hs : pledgeref22_Same (findS x0 x2).1 (findS x0 x2).1 = some true := by
    have hf : (findS x0 x2).1.2.2.1.length < 1000 ∧ (findS x0 x2).1.2.2.2.1.length < 1000 ∧ (findS x0 x2).1.2.2.2.2.1.length < 1000 ∧ (findS x0 x2).1.2.2.2.2.2.1.length < 1000 := by
      unfold findS
      cases hk : atS x0.1 x2 with
      | none => exact (show ord0.2.2.1.length < 1000 ∧ ord0.2.2.2.1.length < 1000 ∧ ord0.2.2.2.2.1.length < 1000 ∧ ord0.2.2.2.2.2.1.length < 1000 from by decide)
      | some k => exact sameO_len (h.fs.few _ (List.mem_of_getElem? (getD_at (at_lt hk))))
    rw [refsame_val _ _ hf.1 hf.2.1 hf.2.2.1 hf.2.2.2, sameO_refl]
  rw [e, e', works24]
  simp only [Option.bind_some, show ((1 : Int) == 0) = false by decide, cond_false]
  rw [apply_val3 x0 x1 h.fs hp, refapply_val3 x0 x1 h.fs hp, find_val x0 x2 h.fs, refFind_val x0 x2 h.fs, storeGood_val x0 h.fs, refGood_val x0 h.fs]
  simp only [Option.bind_some]
  rw [refSameS_val _ _ ha, sameS_refl, hs, refSameS_val _ x0 ha, storeGood_val _ ha]
  simp only [Option.bind_some, cond_true, beq_self_eq_true]
  have hlast : (bif ((applyS x0 x1).2 : Int) == 0 then some true else bif sameS (applyS x0 x1).1 x0 then some true else some false : Option Bool) = some true := by
    cases q : (applyS x0 x1).2 == 0 with
    | true => rfl
    | false =>
      rw [apply_err (s := x0) (p := x1) (by simpa using q), sameS_refl]; rfl
  cases hg : goodS x0 with
  | false => exact hlast
  | true =>
    simp only [Bool.not_true, cond_false]
    rw [goodSt_to (apply_good (goodSt_of h.fs hg) hp)]
    exact hlast
end Go.Proofs.Pure
