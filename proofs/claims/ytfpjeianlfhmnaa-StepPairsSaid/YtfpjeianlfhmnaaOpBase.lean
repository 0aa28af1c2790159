/- Layer 11: which lists are the same; what undoes additions; the chapter's example. -/
import Derived.Test.YtfpjeianlfhmnaaNetRef
set_option linter.unusedVariables false
namespace Go.Proofs.Pure
open Go.Proofs.D Go.Proofs.F

/-! ### Sixty of them -/
def cut60 (l : List OpE) : List OpE := (l.take (if 60 < (l.length : Int) then 60 else (l.length : Int) : Int).toNat).drop 0
theorem cut60_eq (l : List OpE) : cut60 l = l.take 60 := by
  unfold cut60
  rw [List.drop_zero]
  by_cases h : 60 < (l.length : Int)
  · rw [if_pos h]; rfl
  · rw [if_neg h, Int.toNat_natCast, List.take_of_length_le (Nat.le_refl _), List.take_of_length_le (by omega)]
theorem cut60_len (l : List OpE) : (cut60 l).length ≤ 60 := by rw [cut60_eq, List.length_take]; omega
theorem cut60_mem {l : List OpE} {x : OpE} (h : x ∈ cut60 l) : x ∈ l := by rw [cut60_eq] at h; exact List.mem_of_mem_take h
theorem cut60_chk {R : Type} (l : List OpE) (x : Option R) : chk (decide (0 ≤ (if 60 < (l.length : Int) then 60 else (l.length : Int))) && decide ((if 60 < (l.length : Int) then 60 else (l.length : Int)) ≤ (l.length : Int))) x = x := by
  refine chk_true ?_
  by_cases h : 60 < (l.length : Int)
  · rw [if_pos h, dec_t (by omega), dec_t (by omega)]; rfl
  · rw [if_neg h, dec_t (by omega), dec_t (by omega)]; rfl
theorem wf_ops {l : List OpE} (h : WfE (.slice kOp) l) : ∀ x ∈ cut60 l, -9223372036854775808 ≤ x.2.1 ∧ x.2.1 < 9223372036854775808 := fun x hx => wf_i64 (h.2 x (cut60_mem hx)).2.1

/-! ### The same -/
theorem allEq (l m : List OpE) (h : l.length = m.length) : allFrom (fun i => eqE kOp (l.getD i ((0, (0, (0, ()))), (0, ()))) (m.getD i ((0, (0, (0, ()))), (0, ())))) 0 l.length = decide (l = m) := by
  rw [Bool.eq_iff_iff, allFrom_iff, decide_eq_true_iff]
  constructor
  · intro q
    apply List.ext_getElem?
    intro i
    by_cases hi : i < l.length
    · have := eqO_iff.1 (q i (Nat.zero_le _) (by omega))
      rw [List.getD_eq_getElem?_getD, List.getD_eq_getElem?_getD, List.getElem?_eq_getElem hi, List.getElem?_eq_getElem (show i < m.length by omega)] at this
      rw [List.getElem?_eq_getElem hi, List.getElem?_eq_getElem (show i < m.length by omega)]
      exact congrArg some this
    · rw [List.getElem?_eq_none (by omega), List.getElem?_eq_none (by omega)]
  · intro q i _ _
    rw [q]; exact eqO_iff.2 rfl
theorem refSame_val (l m : List OpE) (hl : l.length < 1000000) : pledgeref11_Same l m = some (decide (l = m)) := by
  unfold pledgeref11_Same
  by_cases h : l.length = m.length
  · rw [show (((l.length : Int) : Int) != (m.length : Int)) = false by rw [h]; simp]
    simp only [cond_false]
    have := loop_all (step := pledgeref11_Same.l1) (fun i => (l, (m, (i : Int)))) (fun i => eqE kOp (l.getD i ((0, (0, (0, ()))), (0, ()))) (m.getD i ((0, (0, (0, ()))), (0, ())))) (.inl ()) (.inr false) l.length (by omega) (fun i hi => by
      unfold pledgeref11_Same.l1
      have hx : l[i]? = some (l.getD i ((0, (0, (0, ()))), (0, ()))) := by rw [List.getD_eq_getElem?_getD, List.getElem?_eq_getElem hi]; rfl
      have hy : m[i]? = some (m.getD i ((0, (0, (0, ()))), (0, ()))) := by rw [List.getD_eq_getElem?_getD, List.getElem?_eq_getElem (show i < m.length by omega)]; rfl
      simp only [dec_t (show (i : Int) < (l.length : Int) by omega), cond_true]
      rw [nthK_get hx, nthK_get hy]
      cases eqE kOp (l.getD i ((0, (0, (0, ()))), (0, ()))) (m.getD i ((0, (0, (0, ()))), (0, ()))) with
      | true => simp only [Bool.not_true, cond_false, cond_true]; rw [succ_i64 (by omega)]
      | false => rfl) (by
      unfold pledgeref11_Same.l1
      simp only [dec_f (show ¬ (l.length : Int) < (l.length : Int) by omega), cond_false])
    rw [show (((0 : Nat) : Int)) = 0 from rfl, allEq l m h] at this
    refine (bind_of (f := _) this).trans ?_
    cases decide (l = m) <;> rfl
  · rw [show (((l.length : Int) : Int) != (m.length : Int)) = true by simp; omega]
    simp only [cond_true]
    rw [dec_f (fun q => h (by rw [q]))]
theorem equal_op_val (l m : List OpE) (hl : l.length < 1000000) : op_Same l m = some (decide (l = m)) := by
  unfold op_Same
  have e : slices_Equal_api_Op_api_Op l m = some (decide (l = m)) := by
    unfold slices_Equal_api_Op_api_Op
    by_cases h : l.length = m.length
    · rw [show (((l.length : Int) : Int) != (m.length : Int)) = false by rw [h]; simp]
      simp only [cond_false]
      have := loop_all (step := slices_Equal_api_Op_api_Op.l1) (fun i => (l, (m, ((l.length : Int), (i : Int))))) (fun i => eqE kOp (l.getD i ((0, (0, (0, ()))), (0, ()))) (m.getD i ((0, (0, (0, ()))), (0, ())))) (.inl ()) (.inr false) l.length (by omega) (fun i hi => by
        unfold slices_Equal_api_Op_api_Op.l1
        have hx : l[i]? = some (l.getD i ((0, (0, (0, ()))), (0, ()))) := by rw [List.getD_eq_getElem?_getD, List.getElem?_eq_getElem hi]; rfl
        have hy : m[i]? = some (m.getD i ((0, (0, (0, ()))), (0, ()))) := by rw [List.getD_eq_getElem?_getD, List.getElem?_eq_getElem (show i < m.length by omega)]; rfl
        simp only [dec_t (show (i : Int) < (l.length : Int) by omega), cond_true]
        rw [nthK_get hx, nthK_get hy]
        cases eqE kOp (l.getD i ((0, (0, (0, ()))), (0, ()))) (m.getD i ((0, (0, (0, ()))), (0, ()))) with
        | true => simp only [Bool.not_true, cond_false, cond_true]; rw [succ_i64 (by omega)]
        | false => rfl) (by
        unfold slices_Equal_api_Op_api_Op.l1
        simp only [dec_f (show ¬ (l.length : Int) < (l.length : Int) by omega), cond_false])
      rw [show (((0 : Nat) : Int)) = 0 from rfl, allEq l m h] at this
      refine (bind_of (f := _) this).trans ?_
      cases decide (l = m) <;> rfl
    · rw [show (((l.length : Int) : Int) != (m.length : Int)) = true by simp; omega]
      simp only [cond_true]
      rw [dec_f (fun q => h (by rw [q]))]
  rw [e, Option.bind_some]

/-! ### What undoes them -/
def negI (n : Int) : Int := IntKind.i64.wrap (0 - n)
def negE (x : OpE) : OpE := (x.1, (negI x.2.1, ()))
def negOk (l : List OpE) : Bool := l.all fun x => decide (x.2.1 ≠ -9223372036854775808)
def negR (l : List OpE) : List OpE × Bool := if negOk l = true then (l.map negE, true) else ([], false)
theorem negGo_all : ∀ (l acc : List OpE), acc.length + l.length ≤ 1000000 → negGo (kk := kKey) calc_Neg l acc = some (if negOk l = true then (acc ++ l.map negE, true) else ([], false))
  | [], acc, _ => by show some (acc, true) = _; simp [negOk]
  | x :: l, acc, hl => by
    show ((calc_Neg x.2.1).bind fun r => match r.2.1 with
      | false => some ([], false)
      | true => room (acc.length + 1) (negGo (kk := kKey) calc_Neg l (acc ++ [(x.1, (r.1, ()))]))) = _
    have e0 : negOk (x :: l) = (decide (x.2.1 ≠ -9223372036854775808) && negOk l) := rfl
    by_cases h : x.2.1 = -9223372036854775808
    · have e : calc_Neg x.2.1 = some (0, (false, ())) := by unfold calc_Neg; rw [h]; rfl
      rw [e, e0, dec_f (by simpa using h)]; rfl
    · have hx : (x.2.1 == (-9223372036854775808 : Int)) = false := by simpa using h
      have e : calc_Neg x.2.1 = some (negI x.2.1, (true, ())) := by unfold calc_Neg negI; rw [hx]; rfl
      simp only [List.length_cons] at hl
      rw [e, e0, dec_t (by simpa using h), Bool.true_and]
      show room (acc.length + 1) (negGo (kk := kKey) calc_Neg l (acc ++ [negE x])) = _
      rw [room_ok (by omega), negGo_all l (acc ++ [negE x]) (by simp only [List.length_append, List.length_cons, List.length_nil]; omega), List.append_assoc]; rfl
theorem neg_all (l : List OpE) (hl : l.length ≤ 1000000) : op_Neg l = some (((), ((negR l.reverse).2, ())), ((negR l.reverse).1, ())) := by
  show chk (decide ((0 : Int) ≤ 0) && decide ((0 : Int) ≤ (l.length : Int)) && decide ((l.length : Int) ≤ 4294967296)) ((negGo (kk := kKey) calc_Neg l.reverse []).map fun r => (((), (r.2, ())), (r.1, ()))) = _
  rw [chk_true (by simp; omega)]
  refine (congrArg (Option.map fun r => (((), (r.2, ())), (r.1, ()))) (negGo_all l.reverse [] (by simpa using hl))).trans ?_
  unfold negR
  split <;> rfl
theorem refneg_loop (l : List OpE) (hl : l.length < 10000) (hw : ∀ x ∈ l, -9223372036854775808 ≤ x.2.1) : ∀ (k : Nat) (n : Nat) (acc : List OpE), k ≤ l.length → k < n → acc.length + k ≤ 10000 →
    iterL pledgeref11_Neg.l1 n ((l, ((), (k : Int) - 1)), (acc, ())) = some (if negOk (l.take k).reverse = true then .inl ((), (acc ++ ((l.take k).reverse.map negE), ())) else .inr ((), false))
  | 0, n + 1, acc, _, _, _ => by
    refine iterL_done ?_
    unfold pledgeref11_Neg.l1
    simp [negOk]
  | k + 1, n + 1, acc, hk, hn, ha => by
    have hx : l[k]? = some l[k] := List.getElem?_eq_getElem (by omega)
    have ht : (l.take (k + 1)).reverse = l[k] :: (l.take k).reverse := by
      rw [List.take_add_one, hx, Option.toList_some, List.reverse_append]; rfl
    have e0 : negOk (l[k] :: (l.take k).reverse) = (decide (l[k].2.1 ≠ -9223372036854775808) && negOk (l.take k).reverse) := rfl
    have e : (((k + 1 : Nat) : Int) - 1) = (k : Int) := by omega
    rw [ht, e0, e]
    by_cases h : l[k].2.1 = -9223372036854775808
    · have hs : pledgeref11_Neg.l1 ((l, ((), (k : Int))), (acc, ())) = some (.inr (.inr ((), false))) := by
        unfold pledgeref11_Neg.l1
        simp only [dec_t (show (k : Int) ≥ 0 by omega), cond_true]
        rw [nthK_get hx]
        have : pledgeref01_Neg l[k].2.1 = some (0, (false, ())) := by
          unfold pledgeref01_Neg
          rw [dec_t (show l[k].2.1 < -9223372036854775807 by omega)]; rfl
        rw [this]; rfl
      rw [iterL_done hs, dec_f (by simpa using h)]; rfl
    · have hw' := hw l[k] (List.getElem_mem _)
      have hs : pledgeref11_Neg.l1 ((l, ((), (k : Int))), (acc, ())) = some (.inl ((l, ((), (k : Int) - 1)), (acc ++ [negE l[k]], ()))) := by
        unfold pledgeref11_Neg.l1
        simp only [dec_t (show (k : Int) ≥ 0 by omega), cond_true]
        rw [nthK_get hx]
        have : pledgeref01_Neg l[k].2.1 = some (negI l[k].2.1, (true, ())) := by
          unfold pledgeref01_Neg
          rw [dec_f (show ¬ l[k].2.1 < -9223372036854775807 by omega)]; rfl
        rw [this, Option.bind_some]
        simp only [Bool.not_true, cond_false]
        rw [nthK_get hx, room_ok (by simp only [List.length_cons, List.length_nil]; omega), wrap_i64 (by omega) (by omega)]
        rfl
      rw [iterL_next hs, refneg_loop l hl hw k n _ (by omega) (by omega) (by simp only [List.length_append, List.length_cons, List.length_nil]; omega), dec_t (by simpa using h), Bool.true_and, List.append_assoc]
      rfl
theorem refneg_all (l : List OpE) (hl : l.length < 10000) (hw : ∀ x ∈ l, -9223372036854775808 ≤ x.2.1) : pledgeref11_Neg l = some ((negR l.reverse).1, ((negR l.reverse).2, ())) := by
  unfold pledgeref11_Neg
  rw [wrap_i64 (by omega) (by omega)]
  have := refneg_loop l hl hw l.length loopN [] (Nat.le_refl _) (by rw [loopN_eq]; omega) (by simp; omega)
  rw [List.take_length] at this
  refine (bind_of (f := _) this).trans ?_
  unfold negR
  by_cases h : negOk l.reverse = true
  · rw [if_pos h, if_pos h]; rfl
  · rw [if_neg h, if_neg h]

/-! ### The example -/
theorem works11 : pledgelaw11_works = some true := by
  have hk : SK [((4, (0, (0, ()))), (5, ())), ((1, (0, (0, ()))), (-2, ())), ((4, (0, (0, ()))), (-5, ()))] [(1, (0, (0, ()))), (4, (0, (0, ())))] := by
    refine ⟨?_, fun k => ?_⟩
    · refine List.pairwise_cons.2 ⟨fun x hx => ?_, List.pairwise_cons.2 ⟨fun x hx => by simp at hx, List.Pairwise.nil⟩⟩
      simp only [List.mem_singleton] at hx
      subst hx
      rw [lt3]; rfl
    · simp only [List.mem_cons, List.not_mem_nil, or_false]
      constructor
      · rintro (e | e) <;> subst e
        · exact ⟨_, .inr (.inl rfl), rfl⟩
        · exact ⟨_, .inl rfl, rfl⟩
      · rintro ⟨x, (e | e | e), r⟩ <;> subst e <;> subst r
        · exact .inr rfl
        · exact .inl rfl
        · exact .inr rfl
  have hn := net_val (l := [((4, (0, (0, ()))), (5, ())), ((1, (0, (0, ()))), (-2, ())), ((4, (0, (0, ()))), (-5, ()))]) (fun x hx => by
    simp only [List.mem_cons, List.not_mem_nil, or_false] at hx
    rcases hx with e | e | e <;> subst e <;> exact ⟨by decide, by decide⟩) (by simp) hk
  have hv : netV [((4, (0, (0, ()))), (5, ())), ((1, (0, (0, ()))), (-2, ())), ((4, (0, (0, ()))), (-5, ()))] [(1, (0, (0, ()))), (4, (0, (0, ())))] = ([((1, (0, (0, ()))), (-2, ()))], (true, ())) := by decide
  rw [hv] at hn
  unfold pledgelaw11_works
  refine (bind_of (f := _) hn).trans ?_
  have e1 := equal_op_val [((1, (0, (0, ()))), (-2, ()))] [((1, (0, (0, ()))), (-2, ()))] (by simp)
  rw [dec_t rfl] at e1
  show (op_Same [((1, (0, (0, ()))), (-2, ()))] [((1, (0, (0, ()))), (-2, ()))]).bind _ = _
  rw [e1]; rfl
end Go.Proofs.Pure
