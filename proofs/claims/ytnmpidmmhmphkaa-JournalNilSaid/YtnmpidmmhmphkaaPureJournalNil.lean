/- Of nil there is nothing. -/
import Derived.Test.YtnmpidmmhmphkaaPLib
import Derived.Test.YtnmpidmmhmphkaaFnJnl
set_option linter.unusedVariables false
set_option maxRecDepth 100000
namespace Go.Proofs.Pure
open Go.Proofs.D Go.Proofs.F

theorem works19 : pledgelaw19_works = some true := by kernel_rfl
theorem few13_bit (p : El kProgram) : pledgelaw13_Few p = some 0 ∨ pledgelaw13_Few p = some 1 := by
  have key : ∀ a b c : Bool, ((bif a then bif b then some c else some false else some false : Option Bool).bind fun r2 => bif r2 then some (1 : Int) else some 0) = some 0 ∨ ((bif a then bif b then some c else some false else some false : Option Bool).bind fun r2 => bif r2 then some (1 : Int) else some 0) = some 1 := by
    intro a b c; cases a <;> cases b <;> cases c <;> simp
  exact key _ _ _
theorem few19_one (r : El kRec) : pledgelaw19_few [r] = some false ∨ pledgelaw19_few [r] = some true := by
  unfold pledgelaw19_few
  rcases few13_bit r.2.2.2.2.2.2.2.2.1 with h | h
  · refine .inl ?_
    have s0 : pledgelaw19_few.l1 ([r], 0) = some (Sum.inr (Sum.inr false)) := by
      unfold pledgelaw19_few.l1
      show (nthK [r] 0 fun e1 => (pledgelaw13_Few e1.2.2.2.2.2.2.2.2.1).bind fun r2 => bif (r2 : Int) == 0 then some (Sum.inr (Sum.inr false)) else some (Sum.inl ([r], IntKind.i64.wrap (0 + 1)))) = _
      show ((pledgelaw13_Few r.2.2.2.2.2.2.2.2.1).bind fun r2 => bif (r2 : Int) == 0 then some (Sum.inr (Sum.inr false)) else some (Sum.inl ([r], IntKind.i64.wrap (0 + 1)))) = _
      rw [h]; rfl
    show (iterL pledgelaw19_few.l1 loopN ([r], 0)).bind _ = _
    rw [iterL_mono (m := loopN) (iterL_done (n := 0) s0) (by rw [loopN_eq]; omega)]
    rfl
  · refine .inr ?_
    have s0 : pledgelaw19_few.l1 ([r], 0) = some (Sum.inl ([r], 1)) := by
      unfold pledgelaw19_few.l1
      show ((pledgelaw13_Few r.2.2.2.2.2.2.2.2.1).bind fun r2 => bif (r2 : Int) == 0 then some (Sum.inr (Sum.inr false)) else some (Sum.inl ([r], IntKind.i64.wrap (0 + 1)))) = _
      rw [h]; rfl
    have s1 : pledgelaw19_few.l1 ([r], 1) = some (Sum.inr (Sum.inl ())) := rfl
    show (iterL pledgelaw19_few.l1 loopN ([r], 0)).bind _ = _
    rw [iterL_mono (m := loopN) ((iterL_next s0).trans (iterL_done (n := 0) s1)) (by rw [loopN_eq]; omega)]
    rfl
theorem JournalNil (r : El kRec) (id : El (.int .u32)) (hr : WfE kRec r) (hi : WfE (.int .u32) id) : pledgelaw19_JournalNil r id = some true := by
  unfold pledgelaw19_JournalNil
  rcases few19_one r with h | h
  · rw [h, works19]; (show _ = _; kernel_rfl)
  · rw [h, works19]; (show _ = _; kernel_rfl)
end Go.Proofs.Pure
