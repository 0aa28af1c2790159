/- Layer 13's law: its example, how few things a program has, which orders it is about. -/
import Derived.Test.YtgnbklohlfiaeaaRefGood
set_option linter.unusedVariables false
namespace Go.Proofs.Pure
open Go.Proofs.D Go.Proofs.F

theorem works13 : pledgelaw13_works = some true := by kernel_rfl

def ordersOf (p : Prg) : List Int := bif p.2.1 != 0 then [p.2.1] else p.2.2.2.2.1.map (·.1)

theorem gather_map {α β : Type} (f : α → β) (l : List α) : l.flatMap (fun x => [f x]) = l.map f := by
  induction l with
  | nil => rfl
  | cons x l ih => rw [List.flatMap_cons, ih]; rfl

theorem orders_val (p : Prg) (h : p.2.2.2.2.1.length < 1000000) : prog_Orders p = some (ordersOf p) := by
  unfold prog_Orders ordersOf
  cases p.2.1 != 0 with
  | true => rfl
  | false =>
    simp only [cond_false]
    generalize p.2.2.2.2.1 = t at *
    have := loop_walk (step := prog_Orders.l1) t (fun i (acc : List Int) => (((), (t, ((t.length : Int), (i : Int)))), (acc, ()))) (fun _ y acc => .inl (acc ++ [y.1])) (fun acc => ((), (acc, ()))) (fun i acc => acc.length ≤ i) [] (by omega) (Nat.le_refl _) (fun i y acc hx hi => by
      have hi2 := get_lt hx
      refine ⟨?_, fun _ h => by cases h; simp; exact hi⟩
      unfold prog_Orders.l1
      simp only [dec_t (show (i : Int) < (t.length : Int) by omega), cond_true]
      rw [nthK_get hx, room_ok (by simp; omega), succ_i64 (by omega)]) (fun acc _ => by
      unfold prog_Orders.l1
      simp only [dec_f (show ¬ (t.length : Int) < (t.length : Int) by omega), cond_false])
    rw [show (((0 : Nat) : Int)) = 0 from rfl] at this
    rw [this, walk_gather (fun y : Tk => [y.1]), List.nil_append, gather_map]; rfl

theorem refOrders_val (p : Prg) (h : p.2.2.2.2.1.length < 1000000) : pledgeref13_Orders p = some (ordersOf p) := by
  unfold pledgeref13_Orders ordersOf
  cases p.2.1 != 0 with
  | true => rfl
  | false =>
    simp only [cond_false]
    generalize ht : p.2.2.2.2.1 = t at *
    have := loop_walk (step := pledgeref13_Orders.l1) t (fun i (acc : List Int) => (((), ((), (i : Int))), (p, (acc, ())))) (fun _ y acc => .inl (acc ++ [y.1])) (fun acc => ((), (acc, ()))) (fun i acc => acc.length ≤ i) [] (by omega) (Nat.le_refl _) (fun i y acc hx hi => by
      have hi2 := get_lt hx
      refine ⟨?_, fun _ h => by cases h; simp; exact hi⟩
      unfold pledgeref13_Orders.l1
      simp only [ht, dec_t (show (i : Int) < (t.length : Int) by omega), cond_true]
      rw [nthK_get hx, room_ok (by simp; omega), succ_i64 (by omega)]) (fun acc _ => by
      unfold pledgeref13_Orders.l1
      simp only [ht, dec_f (show ¬ (t.length : Int) < (t.length : Int) by omega), cond_false])
    rw [show (((0 : Nat) : Int)) = 0 from rfl] at this
    rw [this, walk_gather (fun y : Tk => [y.1]), List.nil_append, gather_map]; rfl

theorem few13_cases (x : Prg) (h : WfE kProgram x) : pledgelaw13_Few x = some 0 ∨ (pledgelaw13_Few x = some 1 ∧ Few x ∧ x.2.2.2.1.length ≤ 20 ∧ x.2.2.2.2.1.length ≤ 30 ∧ x.2.2.2.2.2.1.length ≤ 20) := by
  unfold pledgelaw13_Few pledgelaw13_isFew
  by_cases h1 : (x.2.2.2.1.length : Int) ≤ 20
  · by_cases h2 : (x.2.2.2.2.1.length : Int) ≤ 30
    · by_cases h3 : (x.2.2.2.2.2.1.length : Int) ≤ 20
      · rw [dec_t h1, dec_t h2, dec_t h3]
        exact .inr ⟨rfl, ⟨h, by omega, by omega, by omega⟩, by omega, by omega, by omega⟩
      · rw [dec_t h1, dec_t h2, dec_f h3]; exact .inl rfl
    · rw [dec_t h1, dec_f h2]; exact .inl rfl
  · rw [dec_f h1]; exact .inl rfl
end Go.Proofs.Pure
