/- The law AllocWhole. -/
import Derived.Test.YtmhbfandkefnaaaPureAllocPlans
set_option linter.unusedVariables false
namespace Go.Proofs.Pure
open Go.Proofs.D Go.Proofs.F

theorem whole_l2 {c : Cg} {free : Grid} {r : Req} (h : PlanIn c free r) {g : Grid} {o : List Ln} (P : Planned c free r g o) (i : Nat) (hi : i < r.2.2.2.1.length) :
    iterL pledgelaw33_AllocWhole.l2 loopN (((), ((), ((), ((i : Int), ((), 0))))), (r, (free, (planned r o g, ([], ()))))) = some (.inl (((), ((), ((), ((i : Int), ())))), (r, (free, (planned r o g, ((takesFrom r.2.1 g 0 16).flatMap (ofTake (at0 r.2.2.2.1 i).1), ())))))) := by
  obtain ⟨t1, t2, t3, t4, t5, t6⟩ := plan_takes h P
  obtain ⟨f1, f2, f3⟩ := free_rows h.wff
  have hg := at_get hi
  have := loop_walk (step := pledgelaw33_AllocWhole.l2) (takesFrom r.2.1 g 0 16) (fun k (acc : List Int) => (((), ((), ((), ((i : Int), ((), (k : Int)))))), (r, (free, (planned r o g, (acc, ())))))) (fun _ y acc => .inl (acc ++ ofTake (at0 r.2.2.2.1 i).1 y)) (fun acc => .inl (((), ((), ((), ((i : Int), ())))), (r, (free, (planned r o g, (acc, ())))))) (fun k acc => acc.length ≤ k) [] (by omega) (by simp) (fun k y acc hx hI => by
    have hk := get_lt hx
    have hkl : (k : Int) < ((planned r o g).2.2.2.2.1.length : Int) := by show (k : Int) < ((takesFrom r.2.1 g 0 16).length : Int); omega
    obtain ⟨a, w, ha, hw, e1, e2, e3⟩ := t5 y (get_mem hx)
    refine ⟨?_, fun _ q => by cases q; have := ofTake_len (at0 r.2.2.2.1 i).1 y; simp only [List.length_append]; omega⟩
    have hx' : (planned r o g).2.2.2.2.1[k]? = some y := hx
    have c1 : (decide (0 ≤ y.2.1) && decide (y.2.1 < 4)) = true := by rw [dec_t (by omega), dec_t (by omega)]; rfl
    have c2 : (decide (0 ≤ y.2.2.1) && decide (y.2.2.1 < 4)) = true := by rw [dec_t (by omega), dec_t (by omega)]; rfl
    have cell : ∀ (R : Type) (f : Int → Option R), (nthK free y.2.1 fun e => nthK e y.2.2.1 f) = f (cellG free a w) := fun R f => by rw [e1, e2]; exact cell_get f1 f2 a w ha hw f
    unfold pledgelaw33_AllocWhole.l2 ofTake
    simp only [dec_t hkl, cond_true]
    rw [nthK_get hx', nthK_get hg, chk_true c1, chk_true c2, cell, cell, dec_f (by omega : ¬ y.2.2.2.1 > cellG free a w), succ_i64 (by omega), room_ok (by simp; omega)]
    cases (y.2.1 == (at0 r.2.2.2.1 i).1) with
    | true => rfl
    | false => simp only [cond_false, List.append_nil]; rw [chk_true c1, chk_true c2]) (fun acc _ => by
    unfold pledgelaw33_AllocWhole.l2
    have : ¬ (((takesFrom r.2.1 g 0 16).length : Nat) : Int) < ((planned r o g).2.2.2.2.1.length : Int) := by show ¬ (((takesFrom r.2.1 g 0 16).length : Nat) : Int) < ((takesFrom r.2.1 g 0 16).length : Int); omega
    simp only [dec_f this, cond_false])
  rw [show (((0 : Nat) : Int)) = 0 from rfl, walk_gather, List.nil_append] at this
  exact this

theorem whole_l3 {c : Cg} {free : Grid} {r : Req} {g : Grid} {o : List Ln} (ho : o.length ≤ 3) (i : Nat) (hi : i < r.2.2.2.1.length) (acc0 : List Int) (ha : acc0.length ≤ 100) :
    iterL pledgelaw33_AllocWhole.l3 loopN (((), ((), ((), ((i : Int), ((), 0))))), (r, (free, (planned r o g, (acc0, ()))))) = some (((), ((), ((), ((i : Int), ())))), (r, (free, (planned r o g, (acc0 ++ o.flatMap (ofLine (at0 r.2.2.2.1 i).1), ()))))) := by
  have hg := at_get hi
  have := loop_walk (step := pledgelaw33_AllocWhole.l3) o (fun k (acc : List Int) => (((), ((), ((), ((i : Int), ((), (k : Int)))))), (r, (free, (planned r o g, (acc, ())))))) (fun _ y acc => .inl (acc ++ ofLine (at0 r.2.2.2.1 i).1 y)) (fun acc => (((), ((), ((), ((i : Int), ())))), (r, (free, (planned r o g, (acc, ())))))) (fun k acc => acc.length ≤ k + 100) acc0 (by omega) (by omega) (fun k y acc hx hI => by
    have hk := get_lt hx
    have hkl : (k : Int) < ((planned r o g).2.2.2.2.2.1.length : Int) := by show (k : Int) < (o.length : Int); omega
    have hx' : (planned r o g).2.2.2.2.2.1[k]? = some y := hx
    refine ⟨?_, fun _ q => by cases q; have := ofLine_len (at0 r.2.2.2.1 i).1 y; simp only [List.length_append]; omega⟩
    unfold pledgelaw33_AllocWhole.l3 ofLine
    simp only [dec_t hkl, cond_true]
    rw [nthK_get hx', nthK_get hg, nthK_get hx', succ_i64 (by omega), room_ok (by simp; omega)]
    cases (y.1 == (at0 r.2.2.2.1 i).1) with
    | true => rfl
    | false => simp only [cond_false, List.append_nil]) (fun acc _ => by
    unfold pledgelaw33_AllocWhole.l3
    have : ¬ ((o.length : Nat) : Int) < ((planned r o g).2.2.2.2.2.1.length : Int) := by show ¬ ((o.length : Nat) : Int) < (o.length : Int); omega
    simp only [dec_f this, cond_false])
  rw [show (((0 : Nat) : Int)) = 0 from rfl, walk_gather] at this
  exact this

theorem AllocWhole (x0 : Sm) (x1 : Req) (x2 : Grid) (hx0 : WfE kSmall x0) (hx1 : WfE kRequest x1) (hx2 : WfE (.arr 4 (.arr 4 (.int .i64))) x2) : pledgelaw33_AllocWhole x0 x1 x2 = some true := by
  unfold pledgelaw33_AllocWhole
  by_cases hl : (x1.2.2.2.1.length : Int) > 20
  · rw [dec_t hl, works33]; rfl
  rw [dec_f hl]
  obtain ⟨c, k1, k2, k3⟩ := config_split x0 hx0
  simp only [cond_false]
  rw [k1, Option.bind_some, plan_val k2 k3 hx1 hx2 (by omega), works33]
  have bad : prog_Same prg0 prg0 = some true := by kernel_rfl
  unfold planO
  cases hB : planB c x1 with
  | false =>
    simp only [Bool.not_false, cond_true, Option.bind_some, show ((1 : Int) != 0) = true by decide]
    unfold prg0 at bad
    unfold prg0
    rw [bad]
    simp
  | true =>
    simp only [Bool.not_true, cond_false]
    cases hp : plan1 c x2 x1.2.2.1 x1.2.2.2.1 (zeroG, []) with
    | none =>
      simp only [Option.bind_some, show ((15 : Int) != 0) = true by decide, cond_true]
      unfold prg0 at bad
      unfold prg0
      rw [bad]
      simp
    | some a =>
      obtain ⟨g, o⟩ := a
      have hI : PlanIn c x2 x1 := ⟨k2, hx1, hx2, hB⟩
      have P := planned_of hI hp
      have hsk : 1 ≤ c.1 ∧ c.1 ≤ 3 := by rcases k2.skus with e | e | e <;> omega
      have hwk : 1 ≤ c.2.1 ∧ c.2.1 ≤ 3 := by rcases k2.wares with e | e | e <;> omega
      obtain ⟨hL, hln, h4, hwl⟩ := hI.lines
      obtain ⟨t1, t2, t3, t4, t5, t6⟩ := plan_takes hI P
      simp only [Option.bind_some, show ((0 : Int) != 0) = false by decide, cond_false]
      rw [progGood_val c.1 c.2.1 _ (plan_few hI P), plan_good hI P (by omega) (by omega)]
      have hfew := P.few
      have hlf := hL.few
      have ho : x1.2.2.1 = 1 → ((planned x1 o g).2.2.2.2.2.1.length : Int) = 0 := fun e => by
        show (o.length : Int) = 0
        rw [P.whole e]; rfl
      have run := loop_all (step := pledgelaw33_AllocWhole.l1) (fun i => (((), ((), ((), (i : Int)))), (x1, (x2, (planned x1 o g, ()))))) (fun _ => true) (.inl (((), ()), (x1, (planned x1 o g, ())))) (.inr false) x1.2.2.2.1.length (by omega) (fun i hi => by
        have hg := at_get hi
        have hm : at0 x1.2.2.2.1 i ∈ x1.2.2.2.1 := get_mem hg
        have hs := hL.skus _ hm
        have hq := hL.qty _ hm
        obtain ⟨n, hn⟩ : ∃ n : Nat, (at0 x1.2.2.2.1 i).1 = (n : Int) := Int.eq_ofNat_of_zero_le hs.1
        have hall := P.all n (by omega)
        rw [first_mem hln _ hm hn, ← t6 n (by omega)] at hall
        have e : total (namedOf (at0 x1.2.2.2.1 i).1 (takesFrom x1.2.1 g 0 16) o) = (at0 x1.2.2.2.1 i).2.1 := by rw [named_total, hn]; exact hall
        have hfl := flat_len (ofTake_len (at0 x1.2.2.2.1 i).1) (takesFrom x1.2.1 g 0 16)
        have hnl := named_len (at0 x1.2.2.2.1 i).1 (takesFrom x1.2.1 g 0 16) o
        unfold pledgelaw33_AllocWhole.l1
        simp only [dec_t (show (i : Int) < (x1.2.2.2.1.length : Int) by omega), cond_true]
        rw [whole_l2 hI P i hi, Option.bind_some]
        simp only []
        rw [whole_l3 (c := c) hfew i hi _ (by omega), Option.bind_some]
        simp only []
        rw [show (takesFrom x1.2.1 g 0 16).flatMap (ofTake (at0 x1.2.2.2.1 i).1) ++ o.flatMap (ofLine (at0 x1.2.2.2.1 i).1) = namedOf (at0 x1.2.2.2.1 i).1 (takesFrom x1.2.1 g 0 16) o from rfl]
        rw [sum_all _ (by omega) (named_fit _ _ _ t3 P.wf), sumOf_fit (by rw [e]; omega) (by rw [e]; exact hq.2), e, Option.bind_some]
        simp only [Bool.not_true, cond_false]
        rw [nthK_get hg, succ_i64 (by omega), show ((at0 x1.2.2.2.1 i).2.1 != (at0 x1.2.2.2.1 i).2.1) = false by simp]
        rfl) (by
        unfold pledgelaw33_AllocWhole.l1
        simp only [dec_f (show ¬ (x1.2.2.2.1.length : Int) < (x1.2.2.2.1.length : Int) by omega), cond_false])
      rw [show (((0 : Nat) : Int)) = 0 from rfl, show allFrom (fun _ => true) 0 x1.2.2.2.1.length = true from allFrom_iff.2 fun _ _ _ => rfl] at run
      simp only [Option.bind_some, Bool.not_true, cond_false]
      have e1 : (((planned x1 o g).2.2.2.1.length : Int) == (x1.2.2.2.1.length : Int)) = true := by rw [beq_iff_eq]; rfl
      have e2 : ((planned x1 o g).2.1 == x1.2.1) = true := by rw [beq_iff_eq]; rfl
      by_cases hpo : x1.2.2.1 = 1
      · rw [show (x1.2.2.1 == 1) = true by rw [beq_iff_eq]; exact hpo, ho hpo, show ((0 : Int) != 0) = false by decide]
        simp only [cond_true, cond_false, Option.bind_some]
        rw [run]
        simp only [cond_true, Option.bind_some, e1, e2]
      · rw [show (x1.2.2.1 == 1) = false by rw [beq_eq_false_iff_ne]; exact hpo]
        simp only [cond_false, Option.bind_some]
        rw [run]
        simp only [cond_true, Option.bind_some, e1, e2]
end Go.Proofs.Pure
