/- What the program and the reference say of a program's steps. -/
import Derived.Test.YtkipelkedgckoaaSteps
set_option linter.unusedVariables false
namespace Go.Proofs.Pure
open Go.Proofs.D Go.Proofs.F

theorem walk_through {α X : Type} (d : X) : ∀ (l : List α) (i : Nat), walkL (X := X) (fun _ (_ : α) (_ : Unit) => .inl ()) (fun _ => d) i l () = d
  | [], _ => rfl
  | _ :: l, i => walk_through d l (i + 1)

theorem steps_loop (out : List Stp) (hl : out.length < 1000) (h : ∀ s ∈ out, FineS s) : iterL prog_Steps.l1 loopN (((), ((out.length : Int), 0)), (out, ())) = some (.inl ((), (out, ()))) := by
  have := loop_walk (step := prog_Steps.l1) out (fun i (_ : Unit) => (((), ((out.length : Int), (i : Int))), (out, ()))) (fun _ _ _ => .inl ()) (fun _ => .inl ((), (out, ()))) (fun _ _ => True) () (by omega) trivial (fun i y acc hx _ => by
    have hi := get_lt hx
    obtain ⟨h1, h2⟩ := h y (get_mem hx)
    refine ⟨?_, fun _ _ => trivial⟩
    unfold prog_Steps.l1
    have hk : 3 ≥ y.2.2.1.length := by
      unfold goodS at h2
      simp only [Bool.and_eq_true, decide_eq_true_eq] at h2
      exact h2.1.1.2
    simp only [dec_t (show (i : Int) < (out.length : Int) by omega), dec_t (show (0 : Int) ≤ (i : Int) by omega), Bool.and_true, cond_true]
    rw [chk_true rfl, nthK_get hx, stepGood_val 4 4 y h1 (by omega), h2]
    simp only [Option.bind_some, Bool.not_true, cond_false]
    rw [succ_i64 (by omega)]) (fun acc _ => by
    unfold prog_Steps.l1
    simp only [dec_f (show ¬ (out.length : Int) < (out.length : Int) by omega), cond_false])
  rw [show (((0 : Nat) : Int)) = 0 from rfl] at this
  rw [this, walk_through]

theorem clone_lines (l : List Ln) (h : l.length < 1000) : slices_Clone_api_Line_api_Line l = some ((), (l, ())) := by
  unfold slices_Clone_api_Line_api_Line
  rw [room_ok (by omega)]

theorem steps_val (p : Prg) (hf : Few p) : prog_Steps p = some (stepsV p) := by
  have l1 := hf.lines; have l2 := hf.takes; have l3 := hf.owes
  unfold prog_Steps
  rw [progGood_val 4 4 p hf, Option.bind_some]
  unfold stepsV
  cases hg : goodP 4 4 p with
  | false => rfl
  | true =>
    simp only [Bool.not_true, cond_false, cond_true]
    have hfine := stepsP_fine hf hg
    have hlen := stepsP_len hf hg
    unfold stepsP at hfine hlen ⊢
    rcases good_cases hf hg with g | g | g
    · rw [show (p.1 == 6) = false by have := g.kind; simp; omega, show (p.1 == 5) = false by have := g.kind; simp; omega] at hfine hlen ⊢
      simp only [cond_false] at hfine hlen ⊢
      rw [stepsG_val p g.sorted g.kind (by omega), Option.bind_some]
      simp only []
      have hown : (bif decide ((p.2.2.2.2.2.1.length : Int) > 0) then (slices_Clone_api_Line_api_Line p.2.2.2.2.2.1).bind fun r11 => bif (p.1 : Int) == 2 then room ((grps p.1 p.2.2.2.2.1).length + [((8, (0, (r11.2.1, ()))) : Stp)].length) (some (((), (grps p.1 p.2.2.2.2.1 ++ [((8, (0, (r11.2.1, ()))) : Stp)], ())))) else room ((grps p.1 p.2.2.2.2.1).length + [((7, (0, (r11.2.1, ()))) : Stp)].length) (some (((), (grps p.1 p.2.2.2.2.1 ++ [((7, (0, (r11.2.1, ()))) : Stp)], ())))) else some (((), (grps p.1 p.2.2.2.2.1, ()))) : Option (Unit × List Stp × Unit)) =
          some ((), (grps p.1 p.2.2.2.2.1 ++ owS p, ())) := by
        have hgl := grps_len p.1 p.2.2.2.2.1
        unfold owS
        cases ho : p.2.2.2.2.2.1 with
        | nil => rw [dec_f (by simp)]; simp
        | cons a l =>
          have hl3 : (a :: l).length < 1000 := by rw [← ho]; omega
          rw [dec_t (by simp), cond_true, clone_lines _ hl3, Option.bind_some]
          cases p.1 == 2 with
          | true => simp only [cond_true]; rw [room_ok (by simp; omega)]
          | false => simp only [cond_false]; rw [room_ok (by simp; omega)]
      refine (congrArg (fun o => Option.bind o _) hown).trans ?_
      simp only [Option.bind_some]
      rw [steps_loop _ (by omega) hfine, Option.bind_some]
    · rw [show (p.1 == 6) = false by have := g.kind; simp; omega, show (p.1 == 5) = true by have := g.kind; simp [this]]
      simp only [cond_false, cond_true]
      have h5 : prog_one 5 p.2.2.2.2.2.2.2.2.1 p.2.2.2.2.2.2.1 p.2.2.2.2.2.2.2.2.2.1 = some (oneS 5 p.2.2.2.2.2.2.2.2.1 p.2.2.2.2.2.2.1 p.2.2.2.2.2.2.2.2.2.1) := rfl
      obtain ⟨f1, f2, f3, f4⟩ := fills_at g.fills
      rw [h5, Option.bind_some, together_val _ (by omega) hf.w2, Option.bind_some]
      show (bif decide (sumQ p.2.2.2.2.1 > 0) then _ else _) = _
      unfold fillS
      cases ht : p.2.2.2.2.1 with
      | nil => rfl
      | cons a l =>
        rw [ht] at f4
        have f4 : 1 ≤ sumQ (a :: l) := by simp at f4; omega
        rw [dec_t (by omega)]
        rfl
    · rw [show (p.1 == 6) = true by have := g.kind; simp [this]]
      rfl

theorem refSteps_val (p : Prg) (hf : Few p) : pledgeref13_Steps p = some (stepsV p) := by
  have l1 := hf.lines; have l2 := hf.takes; have l3 := hf.owes
  unfold pledgeref13_Steps
  rw [refGoodP_val 4 4 p hf, Option.bind_some]
  unfold stepsV
  cases hg : goodP 4 4 p with
  | false => rfl
  | true =>
    simp only [Bool.not_true, cond_false, cond_true]
    unfold stepsP
    rcases good_cases hf hg with g | g | g
    · rw [show (p.1 == 6) = false by have := g.kind; simp; omega, show (p.1 == 5) = false by have := g.kind; simp; omega]
      simp only [cond_false]
      rw [refSteps_loop p (by omega) hf.w2, Option.bind_some]
      simp only []
      have hgl := grps_len p.1 p.2.2.2.2.1
      unfold owS
      cases ho : p.2.2.2.2.2.1 with
      | nil => simp only [ho, List.length_nil, dec_f (show ¬ ((0 : Nat) : Int) > 0 by omega), cond_false, Option.bind_some, List.append_nil]
      | cons a l =>
        have hd : decide ((((a :: l).length : Nat) : Int) > 0) = true := dec_t (by simp)
        have hk := g.kind
        have hk2 : p.1 = 1 ∨ p.1 = 2 := by
          rcases hk with e | e | e | e
          · exact .inl e
          · exact .inr e
          · have := g.few (.inl e); rw [ho] at this; cases this
          · have := g.few (.inr e); rw [ho] at this; cases this
        rcases hk2 with e | e
        · have e1 : (p.1 == 1) = true := by simp [e]
          have e2 : (p.1 == 2) = false := by simp [e]
          simp only [ho, hd, e1, e2, cond_true, cond_false]
          rw [room_ok (by simp; omega)]
          simp only [Option.bind_some, ho, hd, e1, e2, cond_true, cond_false]
        · have e1 : (p.1 == 1) = false := by simp [e]
          have e2 : (p.1 == 2) = true := by simp [e]
          simp only [ho, hd, e1, e2, cond_true, cond_false, Option.bind_some]
          rw [room_ok (by simp; omega)]
    · rw [show (p.1 == 6) = false by have := g.kind; simp; omega, show (p.1 == 5) = true by have := g.kind; simp [this]]
      simp only [cond_false, cond_true]
      have h5 : pledgeref13_one 5 p.2.2.2.2.2.2.2.2.1 p.2.2.2.2.2.2.1 p.2.2.2.2.2.2.2.2.2.1 = some (oneS 5 p.2.2.2.2.2.2.2.2.1 p.2.2.2.2.2.2.1 p.2.2.2.2.2.2.2.2.2.1) := rfl
      obtain ⟨f1, f2, f3, f4⟩ := fills_at g.fills
      rw [h5, Option.bind_some, room_ok (by simp), refNamed_val _ _ _ (by omega) (by simp) hf.w2 (by simp), Option.bind_some]
      have hn : namedOf p.2.2.2.2.2.2.1 p.2.2.2.2.1 [] = p.2.2.2.2.1.map qtyOf := by
        unfold namedOf
        rw [flat_same fun x hx => (f1 x hx).1]; simp
      rw [hn]
      unfold fillS sumQ
      cases ht : p.2.2.2.2.1 with
      | nil => rfl
      | cons a l =>
        rw [dec_t (by simp)]
        rfl
    · rw [show (p.1 == 6) = true by have := g.kind; simp [this], show (p.1 == 5) = false by have := g.kind; simp [this]]
      rfl
end Go.Proofs.Pure
