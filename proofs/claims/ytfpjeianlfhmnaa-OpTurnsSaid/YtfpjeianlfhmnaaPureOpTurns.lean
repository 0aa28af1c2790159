/- OpTurns: what any additions come to does not hang on their order, and comes to itself. -/
import Derived.Test.YtfpjeianlfhmnaaNetLaws
set_option linter.unusedVariables false
namespace Go.Proofs.Pure
open Go.Proofs.D Go.Proofs.F

theorem turns_loop (l : List OpE) (hl : l.length < 10000) : ∀ (k : Nat) (n : Nat) (acc : List OpE), k ≤ l.length → k < n → acc.length + k ≤ 10000 →
    iterL pledgelaw11_OpTurns.l1 n ((l, ((), (k : Int) - 1)), (acc, ())) = some ((l, ()), (acc ++ (l.take k).reverse, ()))
  | 0, n + 1, acc, _, _, _ => by
    refine iterL_done ?_
    unfold pledgelaw11_OpTurns.l1
    simp
  | k + 1, n + 1, acc, hk, hn, ha => by
    have hx : l[k]? = some l[k] := List.getElem?_eq_getElem (by omega)
    have hs : pledgelaw11_OpTurns.l1 ((l, ((), ((k + 1 : Nat) : Int) - 1)), (acc, ())) = some (.inl ((l, ((), (k : Int) - 1)), (acc ++ [l[k]], ()))) := by
      have e : (((k + 1 : Nat) : Int) - 1) = (k : Int) := by omega
      rw [e]
      unfold pledgelaw11_OpTurns.l1
      simp only [dec_t (show (k : Int) ≥ 0 by omega), cond_true]
      rw [nthK_get hx, room_ok (by simp only [List.length_cons, List.length_nil]; omega), wrap_i64 (by omega) (by omega)]
    rw [iterL_next hs, turns_loop l hl k n _ (by omega) (by omega) (by simp only [List.length_append, List.length_cons, List.length_nil]; omega)]
    rw [List.take_add_one, hx, Option.toList_some, List.reverse_append]
    simp only [List.reverse_cons, List.reverse_nil, List.nil_append, List.singleton_append, List.append_assoc]

theorem OpTurns (x0 : El (.slice kOp)) (h0 : WfE (.slice kOp) x0) : pledgelaw11_OpTurns x0 = some true := by
  unfold pledgelaw11_OpTurns
  refine (cut60_chk (x0 : List OpE) _).trans ?_
  have hw := wf_ops (l := x0) h0
  have hl := cut60_len (x0 : List OpE)
  obtain ⟨l, e⟩ : ∃ l, l = cut60 (x0 : List OpE) := ⟨_, rfl⟩
  rw [← e] at hw hl
  obtain ⟨ks, hk, hn⟩ := net_all hw (by omega)
  have hk2 : SK l.reverse ks := ⟨hk.sorted, fun k => (hk.mem k).trans ⟨fun ⟨x, hx, q⟩ => ⟨x, by simpa using hx, q⟩, fun ⟨x, hx, q⟩ => ⟨x, by simpa using hx, q⟩⟩⟩
  have hn2 := net_val (l := l.reverse) (fun x hx => hw x (by simpa using hx)) (by simp; omega) hk2
  rw [netV_congr (S_reverse l) ks] at hn2
  have hn3 := net_self (l := l) (by omega) hk
  have hlen : (netV l ks).1.length < 1000000 := by
    have hks : ks.length ≤ 1000 := by
      have hks : ks = (keysE (gG l [])).mergeSort (leOf cmp3) := SK.unique hk (sort_SK l) fun _ => Iff.rfl
      rw [hks, List.length_mergeSort]
      show ((gG l []).map fun p => p.1).length ≤ 1000
      have := gG_len l []
      simp only [List.length_nil] at this
      rw [List.length_map]; omega
    unfold netV
    split
    · have := List.length_filterMap_le (fun k => if S l k = 0 then none else some (k, (S l k, ()))) ks
      show (ks.filterMap _).length < _
      omega
    · simp
  have g4 := refSame_val (netV l ks).1 (netV l ks).1 hlen
  rw [dec_t rfl] at g4
  have hlp : iterL pledgelaw11_OpTurns.l1 loopN ((l, ((), IntKind.i64.wrap ((l.length : Int) - 1))), ([], ())) = some ((l, ()), (l.reverse, ())) := by
    rw [wrap_i64 (by omega) (by omega)]
    have := turns_loop l (by omega) l.length loopN [] (Nat.le_refl _) (by rw [loopN_eq]; omega) (by simp; omega)
    rw [List.take_length, List.nil_append] at this
    exact this
  subst e
  refine (bind_of (f := _) hlp).trans ((bind_of (f := _) hn).trans ((bind_of (f := _) hn2).trans ((bind_of (f := _) hn3).trans ((bind_of (f := _) g4).trans ?_))))
  simp only [cond_true, beq_self_eq_true]
  refine (bind_of (f := _) g4).trans ?_
  simp only [cond_true]
  rw [works11]; rfl
end Go.Proofs.Pure
