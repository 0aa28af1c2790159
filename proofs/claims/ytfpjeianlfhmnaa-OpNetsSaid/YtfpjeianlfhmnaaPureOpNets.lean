/- OpNets: of any additions what they come to, and what undoes them, is the document's. -/
import Derived.Test.YtfpjeianlfhmnaaOpBase
set_option linter.unusedVariables false
namespace Go.Proofs.Pure
open Go.Proofs.D Go.Proofs.F

theorem OpNets (x0 : El (.slice kOp)) (h0 : WfE (.slice kOp) x0) : pledgelaw11_OpNets x0 = some true := by
  have x0' : List OpE := x0
  unfold pledgelaw11_OpNets
  refine (cut60_chk (x0 : List OpE) _).trans ?_
  have hw := wf_ops (l := x0) h0
  have hl := cut60_len (x0 : List OpE)
  obtain ⟨l, e⟩ : ∃ l, l = cut60 (x0 : List OpE) := ⟨_, rfl⟩
  rw [← e] at hw hl
  obtain ⟨ks, hk, hn⟩ := net_all hw (by omega)
  have hr := refNet_val hw (by omega) hk
  have g1 := neg_all l (by omega)
  have g2 := refneg_all l (by omega) (fun x hx => (hw x hx).1)
  have hlen : (netV l ks).1.length < 1000000 := by
    have hks : ks.length ≤ 1000 := by
      have hks : ks = (keysE (gG l [])).mergeSort (leOf cmp3) := SK.unique hk (sort_SK l) fun _ => Iff.rfl
      rw [hks, List.length_mergeSort]
      show ((gG l []).map fun p => p.1).length ≤ 1000
      have := gG_len l []
      simp only [List.length_nil] at this
      rw [List.length_map]; omega
    unfold netV
    split
    · have := List.length_filterMap_le (fun k => if S l k = 0 then none else some (k, (S l k, ()))) ks
      show (ks.filterMap _).length < _
      omega
    · simp
  have hlen2 : (negR l.reverse).1.length < 1000000 := by
    unfold negR
    split
    · simp; omega
    · simp
  subst e
  refine (bind_of (f := _) hn).trans ((bind_of (f := _) hr).trans ((bind_of (f := _) g1).trans ((bind_of (f := _) g2).trans ?_)))
  refine (bind_of (f := _) (refSame_val _ _ hlen)).trans ?_
  rw [dec_t rfl]
  simp only [cond_true, beq_self_eq_true]
  refine (bind_of (f := _) (refSame_val _ _ hlen2)).trans ?_
  rw [dec_t rfl, works11]; rfl
end Go.Proofs.Pure
