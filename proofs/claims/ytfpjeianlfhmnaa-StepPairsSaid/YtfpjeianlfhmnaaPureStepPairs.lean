/- StepPairs: of any items, taking and freeing, putting and drawing, owing and paying come to nothing; what is taken, sent and brought back, too. -/
import Derived.Test.YtfpjeianlfhmnaaOpsVal
set_option linter.unusedVariables false
namespace Go.Proofs.Pure
open Go.Proofs.D Go.Proofs.F

def stp (w : Int) (l : List Ln) (t : Int) : Stp := (t, (w, (l, ())))
def pairL (w : Int) (l : List Ln) (ts : List Int) : List OpE := ts.flatMap fun t => opsOf (stp w l t)
theorem pair_val (ts : List Int) (w : Int) (l : List Ln) (ht : ts.length ≤ 10) (hl : l.length ≤ 20) (hw : ∀ x ∈ l, -9223372036854775808 ≤ x.2.1 ∧ x.2.1 < 9223372036854775808) (h0 : ∀ k, S (pairL w l ts) k = 0) :
    pledgelaw12_StepPairs_1 ts () () w l = some (true, (w, (l, ()))) := by
  unfold pledgelaw12_StepPairs_1
  have := loop_walk (step := pledgelaw12_StepPairs_1.l1) ts (fun i (acc : List OpE) => (((), ((), ((), (ts, ((ts.length : Int), (i : Int)))))), (w, (l, (acc, ()))))) (fun _ t acc => .inl (acc ++ opsOf (stp w l t))) (fun acc => ((), (w, (l, (acc, ()))))) (fun i acc => acc.length ≤ 40 * i) [] (by omega) (Nat.le_refl _) (fun i t acc hx hi => by
    have hi2 := get_lt hx
    have ho := opsOf_len (stp w l t)
    have ho : (opsOf (stp w l t)).length ≤ 2 * l.length := ho
    refine ⟨?_, fun _ h => by cases h; simp only [List.length_append]; omega⟩
    unfold pledgelaw12_StepPairs_1.l1
    simp only [dec_t (show (i : Int) < (ts.length : Int) by omega), cond_true]
    rw [nthK_get hx]
    refine (bind_of (f := _) (ops_val (stp w l t) (by show l.length < 1000; omega))).trans ?_
    rw [room_ok (by omega), succ_i64 (by omega)]) (fun acc _ => by
    unfold pledgelaw12_StepPairs_1.l1
    simp only [dec_f (show ¬ (ts.length : Int) < (ts.length : Int) by omega), cond_false])
  rw [show (((0 : Nat) : Int)) = 0 from rfl, walk_gather (fun t => opsOf (stp w l t)), List.nil_append] at this
  refine (bind_of (f := _) this).trans ?_
  have hlen : (pairL w l ts).length ≤ 40 * ts.length := by
    unfold pairL
    clear this h0 ht
    induction ts with
    | nil => simp
    | cons t ts ih =>
      have ho : (opsOf (stp w l t)).length ≤ 2 * l.length := opsOf_len (stp w l t)
      rw [List.flatMap_cons, List.length_append, List.length_cons]; omega
  have hn := net_zero (l := pairL w l ts) (fun x hx => by
    obtain ⟨t, _, hx⟩ := List.mem_flatMap.1 hx
    have := opsOf_wf (stp w l t) hw x hx
    omega) (by omega) h0
  exact (bind_of (f := _) hn).trans rfl

theorem S_flat (f : Ln → List OpE) : ∀ (l : List Ln) (k : KE), S (l.flatMap f) k = total (l.map fun x => S (f x) k)
  | [], k => rfl
  | x :: l, k => by rw [List.flatMap_cons, S_append, S_flat f l k]; rfl
theorem total_zero : ∀ (l : List Int), (∀ x ∈ l, x = 0) → total l = 0
  | [], _ => rfl
  | x :: l, h => by
    have h1 := h x List.mem_cons_self
    have h2 := total_zero l fun y hy => h y (List.mem_cons_of_mem _ hy)
    unfold total; omega
theorem total_add {α : Type} (f g : α → Int) : ∀ (l : List α), total (l.map f) + total (l.map g) = total (l.map fun x => f x + g x)
  | [] => rfl
  | x :: l => by
    have := total_add f g l
    simp only [List.map_cons, total]; omega
theorem S2 (a b : OpE) (k : KE) : S [a, b] k = (if a.1 = k then a.2.1 else 0) + (if b.1 = k then b.2.1 else 0) := by
  rw [S_cons, S_cons, show S [] k = 0 from rfl, Int.add_zero]
theorem S1 (a : OpE) (k : KE) : S [a] k = (if a.1 = k then a.2.1 else 0) := by
  rw [S_cons, show S [] k = 0 from rfl, Int.add_zero]

def cS (w t : Int) (x : Ln) (k : KE) : Int := S (opsItem (t, (w, ([], ()))) x) k
theorem S_ops (w : Int) (l : List Ln) (t : Int) (k : KE) : S (opsOf (stp w l t)) k = total (l.map fun x => cS w t x k) := by
  unfold opsOf
  exact S_flat _ l k
theorem cS_lt {w t : Int} {x : Ln} {k : KE} (h : ¬ x.2.1 ≥ 1) : cS w t x k = 0 := by
  unfold cS opsItem
  rw [dec_f h]; rfl
theorem pair2 (w : Int) (l : List Ln) (a b : Int) (hw : ∀ x ∈ l, -9223372036854775808 ≤ x.2.1 ∧ x.2.1 < 9223372036854775808) (h : ∀ (x : Ln) (k : KE), x.2.1 ≥ 1 → negI x.2.1 = -x.2.1 → cS w a x k + cS w b x k = 0) (k : KE) : S (pairL w l [a, b]) k = 0 := by
  unfold pairL
  rw [List.flatMap_cons, List.flatMap_cons, List.flatMap_nil, S_append, S_append, show S [] k = 0 from rfl, Int.add_zero, S_ops, S_ops, total_add]
  refine total_zero _ fun y hy => ?_
  obtain ⟨x, hx, e⟩ := List.mem_map.1 hy
  have hq := hw x hx
  rw [← e]
  by_cases c : x.2.1 ≥ 1
  · exact h x k c (negI_val (by omega) (by omega))
  · rw [cS_lt c, cS_lt c]; rfl
theorem pair12 (w : Int) (x : Ln) (k : KE) (c : x.2.1 ≥ 1) (hn : negI x.2.1 = -x.2.1) : cS w 1 x k + cS w 2 x k = 0 := by
  unfold cS opsItem
  rw [dec_t c]
  show S [addO 1 x.1 w (negI x.2.1), addO 2 x.1 w x.2.1] k + S [addO 2 x.1 w (negI x.2.1), addO 1 x.1 w x.2.1] k = 0
  rw [S2, S2, hn]
  unfold addO
  simp only
  split <;> split <;> omega
theorem pair56 (w : Int) (x : Ln) (k : KE) (c : x.2.1 ≥ 1) (hn : negI x.2.1 = -x.2.1) : cS w 5 x k + cS w 6 x k = 0 := by
  unfold cS opsItem
  rw [dec_t c]
  show S [addO 1 x.1 w x.2.1] k + S [addO 1 x.1 w (negI x.2.1)] k = 0
  rw [S1, S1, hn]
  unfold addO
  simp only
  split <;> omega
theorem pair78 (w : Int) (x : Ln) (k : KE) (c : x.2.1 ≥ 1) (hn : negI x.2.1 = -x.2.1) : cS w 7 x k + cS w 8 x k = 0 := by
  unfold cS opsItem
  rw [dec_t c]
  show S [addO 4 x.1 0 x.2.1] k + S [addO 4 x.1 0 (negI x.2.1)] k = 0
  rw [S1, S1, hn]
  unfold addO
  simp only
  split <;> omega
theorem pair134 (w : Int) (x : Ln) (k : KE) (c : x.2.1 ≥ 1) (hn : negI x.2.1 = -x.2.1) : cS w 1 x k + (cS w 3 x k + cS w 4 x k) = 0 := by
  unfold cS opsItem
  rw [dec_t c]
  show S [addO 1 x.1 w (negI x.2.1), addO 2 x.1 w x.2.1] k + (S [addO 2 x.1 w (negI x.2.1), addO 3 x.1 0 x.2.1] k + S [addO 3 x.1 0 (negI x.2.1), addO 1 x.1 w x.2.1] k) = 0
  rw [S2, S2, S2, hn]
  unfold addO
  simp only
  split <;> split <;> split <;> omega
theorem pair3 (w : Int) (l : List Ln) (hw : ∀ x ∈ l, -9223372036854775808 ≤ x.2.1 ∧ x.2.1 < 9223372036854775808) (k : KE) : S (pairL w l [1, 3, 4]) k = 0 := by
  unfold pairL
  rw [List.flatMap_cons, List.flatMap_cons, List.flatMap_cons, List.flatMap_nil, S_append, S_append, S_append, show S [] k = 0 from rfl, Int.add_zero, S_ops, S_ops, S_ops, total_add, total_add]
  refine total_zero _ fun y hy => ?_
  obtain ⟨x, hx, e⟩ := List.mem_map.1 hy
  have hq := hw x hx
  rw [← e]
  by_cases c : x.2.1 ≥ 1
  · exact pair134 w x k c (negI_val (by omega) (by omega))
  · rw [cS_lt c, cS_lt c, cS_lt c]; rfl

def cut20 (l : List Ln) : List Ln := (l.take (if 20 < (l.length : Int) then 20 else (l.length : Int) : Int).toNat).drop 0
theorem cut20_mem {l : List Ln} {x : Ln} (h : x ∈ cut20 l) : x ∈ l := by
  unfold cut20 at h
  rw [List.drop_zero] at h; exact List.mem_of_mem_take h
theorem cut20_len (l : List Ln) : (cut20 l).length ≤ 20 := by
  unfold cut20
  rw [List.drop_zero, List.length_take]
  by_cases h : 20 < (l.length : Int)
  · rw [if_pos h]; show min 20 _ ≤ 20; omega
  · rw [if_neg h]; omega
theorem cut20_chk {R : Type} (l : List Ln) (x : Option R) : chk (decide (0 ≤ (if 20 < (l.length : Int) then 20 else (l.length : Int))) && decide ((if 20 < (l.length : Int) then 20 else (l.length : Int)) ≤ (l.length : Int))) x = x := by
  refine chk_true ?_
  by_cases h : 20 < (l.length : Int)
  · rw [if_pos h, dec_t (by omega), dec_t (by omega)]; rfl
  · rw [if_neg h, dec_t (by omega), dec_t (by omega)]; rfl

theorem works12 : pledgelaw12_works = some true := by kernel_rfl
theorem StepPairs (x0 : El (.int .u8)) (x1 : El (.slice kLine)) (h0 : WfE (.int .u8) x0) (h1 : WfE (.slice kLine) x1) : pledgelaw12_StepPairs x0 x1 = some true := by
  unfold pledgelaw12_StepPairs
  obtain ⟨l, e⟩ : ∃ l : List Ln, l = cut20 (x1 : List Ln) := ⟨_, rfl⟩
  have hl : l.length ≤ 20 := by rw [e]; exact cut20_len _
  have hw : ∀ x ∈ l, -9223372036854775808 ≤ x.2.1 ∧ x.2.1 < 9223372036854775808 := fun x hx => wf_i64 (h1.2 x (cut20_mem (by rw [e] at hx; exact hx))).2.1
  refine (cut20_chk (x1 : List Ln) _).trans ?_
  have a1 := pair_val [1, 2] (x0 : Int) l (by simp) hl hw (pair2 _ l 1 2 hw fun x k c hn => pair12 _ x k c hn)
  have a2 := pair_val [5, 6] (x0 : Int) l (by simp) hl hw (pair2 _ l 5 6 hw fun x k c hn => pair56 _ x k c hn)
  have a3 := pair_val [7, 8] (x0 : Int) l (by simp) hl hw (pair2 _ l 7 8 hw fun x k c hn => pair78 _ x k c hn)
  have a4 := pair_val [1, 3, 4] (x0 : Int) l (by simp) hl hw (pair3 _ l hw)
  subst e
  refine (bind_of (f := _) a1).trans ?_
  simp only [cond_true]
  refine (bind_of (f := _) a2).trans ?_
  simp only [cond_true]
  refine (bind_of (f := _) a3).trans ?_
  simp only [cond_true]
  refine (bind_of (f := _) a4).trans ?_
  simp only [cond_true]
  rw [works12]; rfl
end Go.Proofs.Pure
