/- The law ProgGood. -/
import Derived.Test.YtgnbklohlfiaeaaProg13
set_option linter.unusedVariables false
namespace Go.Proofs.Pure
open Go.Proofs.D Go.Proofs.F

theorem ProgGood (x0 x1 : Int) (x2 : Prg) (hx0 : WfE (.int .i64) x0) (hx1 : WfE (.int .i64) x1) (hx2 : WfE kProgram x2) : pledgelaw13_ProgGood x0 x1 x2 = some true := by
  unfold pledgelaw13_ProgGood
  rcases few13_cases x2 hx2 with e | ⟨e, h, a, b, c⟩
  · rw [e, works13]; rfl
  rw [e, works13, orders_val x2 (by omega), refOrders_val x2 (by omega)]
  simp only [Option.bind_some, show ((1 : Int) == 0) = false by decide, cond_false, bne_self_eq_false]
  have hl : (ordersOf x2).length < 1000000 := by
    unfold ordersOf
    cases x2.2.1 != 0 <;> simp; omega
  generalize ordersOf x2 = l at *
  have := loop_walk (step := pledgelaw13_ProgGood.l1) l (fun i (_ : Unit) => ((x0, (x1, ((), (l, (l, (i : Int)))))), (x2, ()))) (fun _ _ _ => .inl ()) (fun _ => .inl ((x0, (x1, ())), (x2, ()))) (fun _ _ => True) () (by omega) trivial (fun i y acc hx _ => by
    have hi := get_lt hx
    refine ⟨?_, fun _ _ => trivial⟩
    unfold pledgelaw13_ProgGood.l1
    simp only [dec_t (show (i : Int) < (l.length : Int) by omega), cond_true]
    rw [nthK_get hx, nthK_get hx]
    simp only [bne_self_eq_false, cond_false]
    rw [succ_i64 (by omega)]) (fun acc _ => by
    unfold pledgelaw13_ProgGood.l1
    simp only [dec_f (show ¬ (l.length : Int) < (l.length : Int) by omega), cond_false])
  rw [show (((0 : Nat) : Int)) = 0 from rfl] at this
  rw [this]
  have walk : ∀ (l : List Int) (i : Nat), walkL (X := ((Int × Int × Unit) × Prg × Unit) ⊕ Bool) (fun _ (_ : Int) (_ : Unit) => .inl ()) (fun _ => .inl ((x0, (x1, ())), (x2, ()))) i l () = .inl ((x0, (x1, ())), (x2, ())) := by
    intro l
    induction l with
    | nil => intro i; rfl
    | cons y l ih => intro i; exact ih (i + 1)
  rw [walk]
  simp only [Option.bind_some]
  rw [progGood_val x0 x1 x2 h, refGoodP_val x0 x1 x2 h]
  simp only [Option.bind_some, beq_self_eq_true, cond_true]
end Go.Proofs.Pure
