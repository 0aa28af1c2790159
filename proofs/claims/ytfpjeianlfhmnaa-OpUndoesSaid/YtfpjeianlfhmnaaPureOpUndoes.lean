/- OpUndoes: any additions, and what undoes them, come to nothing; what is undone twice is as it was. -/
import Derived.Test.YtfpjeianlfhmnaaNetLaws
set_option linter.unusedVariables false
namespace Go.Proofs.Pure
open Go.Proofs.D Go.Proofs.F

theorem negE_twice : ∀ (l : List OpE), (∀ x ∈ l, -9223372036854775808 < x.2.1 ∧ x.2.1 < 9223372036854775808) → (l.map negE).map negE = l
  | [], _ => rfl
  | x :: l, h => by
    have hx := h x List.mem_cons_self
    rw [List.map_cons, List.map_cons, negE_twice l fun y hy => h y (List.mem_cons_of_mem _ hy)]
    congr 1
    show (x.1, (negI (negI x.2.1), ())) = x
    rw [negI_val hx.1 hx.2, negI_val (by omega) (by omega), Int.neg_neg]

theorem OpUndoes (x0 : El (.slice kOp)) (h0 : WfE (.slice kOp) x0) : pledgelaw11_OpUndoes x0 = some true := by
  unfold pledgelaw11_OpUndoes
  refine (cut60_chk (x0 : List OpE) _).trans ?_
  have hw := wf_ops (l := x0) h0
  have hl := cut60_len (x0 : List OpE)
  obtain ⟨l, e⟩ : ∃ l, l = cut60 (x0 : List OpE) := ⟨_, rfl⟩
  rw [← e] at hw hl
  have g1 := neg_all l (by omega)
  by_cases ho : negOk l.reverse = true
  · have hn : negR l.reverse = (l.reverse.map negE, true) := by unfold negR; rw [if_pos ho]
    rw [hn] at g1
    have hw1 : ∀ x ∈ l, -9223372036854775808 < x.2.1 ∧ x.2.1 < 9223372036854775808 := fun x hx => by
      have h1 := hw x hx
      have h2 := negOk_iff.1 ho x (by simpa using hx)
      omega
    obtain ⟨m, em⟩ : ∃ m, m = l.reverse.map negE := ⟨_, rfl⟩
    rw [← em] at g1
    have hm : ∀ x ∈ m, -9223372036854775808 < x.2.1 ∧ x.2.1 < 9223372036854775808 := fun x hx => by
      rw [em] at hx
      obtain ⟨y, hy, e⟩ := List.mem_map.1 hx
      have := hw1 y (by simpa using hy)
      rw [← e]
      show _ < negI y.2.1 ∧ negI y.2.1 < _
      rw [negI_val this.1 this.2]; omega
    have hml : m.length ≤ 60 := by rw [em]; simpa using hl
    have g2 := neg_all m (by omega)
    have hn2 : negR m.reverse = (l, true) := by
      unfold negR
      rw [if_pos (negOk_iff.2 fun x hx => by have := hm x (by simpa using hx); omega)]
      congr 1
      rw [em, ← List.map_reverse, List.reverse_reverse]
      exact negE_twice l hw1
    rw [hn2] at g2
    have g3 : op_Net (([] ++ l) ++ m) = some ([], (true, ())) := by
      rw [List.nil_append]
      refine net_zero (fun x hx => ?_) (by rw [List.length_append]; omega) fun k => ?_
      · rcases List.mem_append.1 hx with q | q
        · exact hw x q
        · have := hm x q; omega
      · rw [S_append, em, S_neg l.reverse k (fun x hx => hw1 x (by simpa using hx)), S_reverse]; omega
    have g4 := refSame_val l l (by omega)
    rw [dec_t rfl] at g4
    subst e
    refine (bind_of (f := _) g1).trans ?_
    simp only [Bool.not_true, cond_false]
    refine (bind_of (f := _) g2).trans ?_
    refine (room_ok (show 0 + (cut60 (x0 : List OpE)).length ≤ 4294967296 by omega)).trans ?_
    refine (room_ok (show ([] ++ cut60 (x0 : List OpE)).length + m.length ≤ 4294967296 by rw [List.nil_append]; omega)).trans ?_
    refine (bind_of (f := _) g3).trans ?_
    simp only [cond_true]
    refine (bind_of (f := _) g4).trans ?_
    simp only [cond_true]
    rw [works11]; rfl
  · have hn : negR l.reverse = ([], false) := by unfold negR; rw [if_neg ho]
    rw [hn] at g1
    subst e
    refine (bind_of (f := _) g1).trans ?_
    rw [works11]; rfl
end Go.Proofs.Pure
