/- OpParts: of any additions what is added to any key, and what is taken away, is the document's; whether two lists are the same. -/
import Derived.Test.YtfpjeianlfhmnaaOpBase
set_option linter.unusedVariables false
namespace Go.Proofs.Pure
open Go.Proofs.D Go.Proofs.F

theorem low_val (l : List OpE) (k : KE) (hl : l.length ≤ 100000) (hw : ∀ x ∈ l, -9223372036854775808 ≤ x.2.1 ∧ x.2.1 < 9223372036854775808) : op_Low l k = some (sumOf ((dl l k).filter fun d => decide (d < 0))) := by
  unfold op_Low op_some
  have := loop_walk (step := op_some.l1) l (fun i (acc : List Int) => (((), ((), ((), (l, ((l.length : Int), (i : Int)))))), (k, (acc, ())))) (fun _ x acc => .inl (acc ++ (if x.1 = k ∧ decide (x.2.1 < 0) = true then [x.2.1] else []))) (fun acc => ((), (acc, ()))) (fun i acc => acc.length ≤ i) [] (by omega) (Nat.le_refl _) (fun i x acc hx hi => by
    have hi2 := get_lt hx
    constructor
    · unfold op_some.l1
      simp only [dec_t (show (i : Int) < (l.length : Int) by omega), cond_true]
      rw [nthK_get hx, succ_i64 (by omega)]
      by_cases hk : x.1 = k
      · rw [eqK_iff.2 hk, cond_true]
        show ((some (decide (x.2.1 < 0))).bind _) = _
        rw [Option.bind_some]
        by_cases hd : x.2.1 < 0
        · rw [dec_t hd, cond_true, if_pos ⟨hk, rfl⟩, room_ok (by simp only [List.length_cons, List.length_nil]; omega)]
        · rw [dec_f hd, cond_false, if_neg (fun q => by cases q.2), List.append_nil]
      · rw [eqK_ne hk, cond_false, if_neg (fun q => hk q.1), List.append_nil]
    · intro b hb
      cases hb
      simp only [List.length_append]
      split <;> simp <;> omega) (fun acc _ => by
    unfold op_some.l1
    simp only [dec_f (show ¬ (l.length : Int) < (l.length : Int) by omega), cond_false])
  rw [show (((0 : Nat) : Int)) = 0 from rfl, walk_gather (fun x : OpE => if x.1 = k ∧ decide (x.2.1 < 0) = true then [x.2.1] else [])] at this
  have hg : ([] : List Int) ++ l.flatMap (fun x : OpE => if x.1 = k ∧ decide (x.2.1 < 0) = true then [x.2.1] else []) = (dl l k).filter fun d => decide (d < 0) := by
    rw [List.nil_append]
    clear this hl hw
    induction l with
    | nil => rfl
    | cons x l ih =>
      rw [List.flatMap_cons, ih, dl_cons]
      by_cases h1 : x.1 = k
      · rw [if_pos h1]
        by_cases h2 : decide (x.2.1 < 0) = true
        · rw [if_pos ⟨h1, h2⟩, List.filter_cons_of_pos (p := fun d => decide (d < 0)) h2]; rfl
        · rw [if_neg (fun q => h2 q.2), List.filter_cons_of_neg (p := fun d => decide (d < 0)) h2]; rfl
      · rw [if_neg h1, if_neg (fun q => h1 q.1)]; rfl
  rw [hg] at this
  have hs : calc_Sum ((dl l k).filter fun d => decide (d < 0)) = some (sumOf ((dl l k).filter fun d => decide (d < 0))) := sum_all _ (by
    have h1 := dl_len l k
    have h2 := List.length_filter_le (fun d => decide (d < 0)) (dl l k)
    omega) fun d hd => by
    obtain ⟨x, hx, _, e⟩ := dl_mem (List.mem_filter.1 hd).1
    rw [← e]; exact hw x hx
  have e1 : ((iterL op_some.l1 loopN (((), ((), ((), (l, ((l.length : Int), 0))))), (k, ([], ())))).bind fun y10 => (calc_Sum y10.2.1).bind fun r11 => some (r11.1, (r11.2.1, ()))) = some (sumOf ((dl l k).filter fun d => decide (d < 0))) :=
    (bind_of (f := _) this).trans ((bind_of (f := _) hs).trans rfl)
  exact (bind_of (f := _) e1).trans rfl

theorem high_val (l : List OpE) (k : KE) (hl : l.length ≤ 100000) (hw : ∀ x ∈ l, -9223372036854775808 ≤ x.2.1 ∧ x.2.1 < 9223372036854775808) : op_High l k = some (sumOf ((dl l k).filter fun d => decide (d > 0))) := by
  unfold op_High op_some_v2
  have := loop_walk (step := op_some_v2.l1) l (fun i (acc : List Int) => (((), ((), ((), (l, ((l.length : Int), (i : Int)))))), (k, (acc, ())))) (fun _ x acc => .inl (acc ++ (if x.1 = k ∧ decide (x.2.1 > 0) = true then [x.2.1] else []))) (fun acc => ((), (acc, ()))) (fun i acc => acc.length ≤ i) [] (by omega) (Nat.le_refl _) (fun i x acc hx hi => by
    have hi2 := get_lt hx
    constructor
    · unfold op_some_v2.l1
      simp only [dec_t (show (i : Int) < (l.length : Int) by omega), cond_true]
      rw [nthK_get hx, succ_i64 (by omega)]
      by_cases hk : x.1 = k
      · rw [eqK_iff.2 hk, cond_true]
        show ((some (decide (x.2.1 > 0))).bind _) = _
        rw [Option.bind_some]
        by_cases hd : x.2.1 > 0
        · rw [dec_t hd, cond_true, if_pos ⟨hk, rfl⟩, room_ok (by simp only [List.length_cons, List.length_nil]; omega)]
        · rw [dec_f hd, cond_false, if_neg (fun q => by cases q.2), List.append_nil]
      · rw [eqK_ne hk, cond_false, if_neg (fun q => hk q.1), List.append_nil]
    · intro b hb
      cases hb
      simp only [List.length_append]
      split <;> simp <;> omega) (fun acc _ => by
    unfold op_some_v2.l1
    simp only [dec_f (show ¬ (l.length : Int) < (l.length : Int) by omega), cond_false])
  rw [show (((0 : Nat) : Int)) = 0 from rfl, walk_gather (fun x : OpE => if x.1 = k ∧ decide (x.2.1 > 0) = true then [x.2.1] else [])] at this
  have hg : ([] : List Int) ++ l.flatMap (fun x : OpE => if x.1 = k ∧ decide (x.2.1 > 0) = true then [x.2.1] else []) = (dl l k).filter fun d => decide (d > 0) := by
    rw [List.nil_append]
    clear this hl hw
    induction l with
    | nil => rfl
    | cons x l ih =>
      rw [List.flatMap_cons, ih, dl_cons]
      by_cases h1 : x.1 = k
      · rw [if_pos h1]
        by_cases h2 : decide (x.2.1 > 0) = true
        · rw [if_pos ⟨h1, h2⟩, List.filter_cons_of_pos (p := fun d => decide (d > 0)) h2]; rfl
        · rw [if_neg (fun q => h2 q.2), List.filter_cons_of_neg (p := fun d => decide (d > 0)) h2]; rfl
      · rw [if_neg h1, if_neg (fun q => h1 q.1)]; rfl
  rw [hg] at this
  have hs : calc_Sum ((dl l k).filter fun d => decide (d > 0)) = some (sumOf ((dl l k).filter fun d => decide (d > 0))) := sum_all _ (by
    have h1 := dl_len l k
    have h2 := List.length_filter_le (fun d => decide (d > 0)) (dl l k)
    omega) fun d hd => by
    obtain ⟨x, hx, _, e⟩ := dl_mem (List.mem_filter.1 hd).1
    rw [← e]; exact hw x hx
  have e1 : ((iterL op_some_v2.l1 loopN (((), ((), ((), (l, ((l.length : Int), 0))))), (k, ([], ())))).bind fun y10 => (calc_Sum y10.2.1).bind fun r11 => some (r11.1, (r11.2.1, ()))) = some (sumOf ((dl l k).filter fun d => decide (d > 0))) :=
    (bind_of (f := _) this).trans ((bind_of (f := _) hs).trans rfl)
  exact (bind_of (f := _) e1).trans rfl

theorem OpParts (x0 : El (.slice kOp)) (x1 : El (.slice kOp)) (x2 : El kKey) (h0 : WfE (.slice kOp) x0) (h1 : WfE (.slice kOp) x1) (h2 : WfE kKey x2) : pledgelaw11_OpParts x0 x1 x2 = some true := by
  unfold pledgelaw11_OpParts
  refine (cut60_chk (x0 : List OpE) _).trans ((cut60_chk (x1 : List OpE) _).trans ?_)
  have hw := wf_ops (l := x0) h0
  have hl := cut60_len (x0 : List OpE)
  have hl1 := cut60_len (x1 : List OpE)
  obtain ⟨l, e⟩ : ∃ l, l = cut60 (x0 : List OpE) := ⟨_, rfl⟩
  obtain ⟨l1, e1⟩ : ∃ l, l = cut60 (x1 : List OpE) := ⟨_, rfl⟩
  rw [← e] at hw hl
  rw [← e1] at hl1
  have a1 := low_val l x2 (by omega) hw
  have a2 := high_val l x2 (by omega) hw
  have s1 : (selD (-1)) = fun d => decide (d < 0) := by funext d; unfold selD; simp
  have s2 : (selD 1) = fun d => decide (d > 0) := by funext d; unfold selD; simp
  have b1 := deltas_val l x2 (-1) (by omega)
  have b2 := deltas_val l x2 1 (by omega)
  rw [s1] at b1
  rw [s2] at b2
  have fit : ∀ (p : Int → Bool), ((dl l x2).filter p).length < 1000000 ∧ ∀ d ∈ (dl l x2).filter p, -9223372036854775808 ≤ d ∧ d < 9223372036854775808 := fun p => ⟨by
    have h1 := dl_len l x2
    have h2 := List.length_filter_le p (dl l x2)
    omega, fun d hd => by
    obtain ⟨x, hx, _, e⟩ := dl_mem (List.mem_filter.1 hd).1
    rw [← e]; exact hw x hx⟩
  have c1 := refsum_all _ (fit fun d => decide (d < 0)).1 (fit fun d => decide (d < 0)).2
  have c2 := refsum_all _ (fit fun d => decide (d > 0)).1 (fit fun d => decide (d > 0)).2
  have w1 := equal_op_val l l1 (by omega)
  have w2 := refSame_val l l1 (by omega)
  have w3 := equal_op_val l l (by omega)
  rw [dec_t (rfl : l = l)] at w3
  subst e; subst e1
  refine (bind_of (f := _) a1).trans ((bind_of (f := _) b1).trans ((bind_of (f := _) c1).trans ((bind_of (f := _) a2).trans ((bind_of (f := _) b2).trans ((bind_of (f := _) c2).trans ?_)))))
  simp only [beq_self_eq_true, cond_true]
  refine (bind_of (f := _) w1).trans ((bind_of (f := _) w2).trans ?_)
  simp only [beq_self_eq_true, cond_true]
  refine (bind_of (f := _) w3).trans ?_
  simp only [cond_true]
  rw [works11]; rfl
end Go.Proofs.Pure
