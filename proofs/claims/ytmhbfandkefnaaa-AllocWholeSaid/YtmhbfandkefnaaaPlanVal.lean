/- What alloc.Plan, and the document's plan, answer. -/
import Derived.Test.YtmhbfandkefnaaaPlan
import Derived.Test.YtmhbfandkefnaaaGivesRef
set_option linter.unusedVariables false
namespace Go.Proofs.Pure
open Go.Proofs.D Go.Proofs.F

abbrev Req := Int × Int × Int × List Ln × Int × Int × Int × Int × Unit
def prg0 : Prg := (0, (0, (0, ([], ([], ([], (0, (0, (0, (0, ()))))))))))
def planned (r : Req) (o : List Ln) (g : Grid) : Prg := (1, (r.2.1, (r.2.2.1, (r.2.2.2.1, (takesFrom r.2.1 g 0 16, (o, (0, (0, (0, (0, ()))))))))))
def planB (c : Cg) (r : Req) : Bool := (r.1 == 1) && (!(r.2.1 == 0) && (!decide (r.2.2.1 > 1) && (linesB c.1 r.2.2.2.1 && decide ((r.2.2.2.1.length : Int) ≥ 1))))
def planO (c : Cg) (r : Req) (free : Grid) : Prg × Int × Unit :=
  bif !planB c r then (prg0, (1, ())) else match plan1 c free r.2.2.1 r.2.2.2.1 (zeroG, []) with
    | none => (prg0, (15, ()))
    | some a => (planned r a.2 a.1, (0, ()))

theorem fineL_val (s : Int) (l : List Ln) (hs : s ≤ 4) (hl : l.length < 1000) (hw : ∀ x ∈ l, WfE kLine x) : alloc_fine s l = some (linesB s l && decide ((l.length : Int) ≥ 1)) := by
  unfold alloc_fine linesB
  have hm : (if 4 < s then 4 else s) = s := if_neg (by omega)
  have := loop_all (step := alloc_fine.l1) (fun i => (s, (l, (l, ((l.length : Int), (i : Int)))))) (lineR s l) (.inl l) (.inr false) l.length (by omega) (fun i hi => by
    have e : alloc_fine.l1 (s, (l, (l, ((l.length : Int), (i : Int))))) = bif decide ((i : Int) < (l.length : Int)) then lineBody IntKind.i64.wrap l (if 4 < s then 4 else s) i (some (.inr (.inr false))) (some (.inl (s, (l, (l, ((l.length : Int), IntKind.i64.wrap ((i : Int) + 1))))))) else some (.inr (.inl l)) := rfl
    rw [e, hm, dec_t (show (i : Int) < (l.length : Int) by omega), lineBody_val _ l s i _ _ hi hl (wrapL hw hi), succ_i64 (by omega)]
    rfl) (by
    unfold alloc_fine.l1
    simp only [dec_f (show ¬ (l.length : Int) < (l.length : Int) by omega), cond_false])
  rw [show (((0 : Nat) : Int)) = 0 from rfl] at this
  rw [this, Option.bind_some]
  cases allFrom (lineR s l) 0 l.length with
  | false => rfl
  | true =>
    simp only [cond_true, Bool.true_and]
    cases decide ((l.length : Int) ≥ 1) <;> cases decide ((l.length : Int) ≤ 3) <;> rfl

def pF {X : Type} (c : Cg) (free : Grid) (pol : Int) (F : X) : Nat → Ln → Grid × List Ln → (Grid × List Ln) ⊕ X := fun _ x a =>
  bif decide ((splitOf c x.1 x.2.1 (rowG free x.1.toNat)).2.1 > 0) && (pol == 1) then .inr F
  else .inl (a.1.set x.1.toNat (splitOf c x.1 x.2.1 (rowG free x.1.toNat)).1, a.2 ++ owe (splitOf c x.1 x.2.1 (rowG free x.1.toNat)) x.1)
theorem walk_plan {X : Type} (c : Cg) (free : Grid) (pol : Int) (F : X) (fin : Grid × List Ln → X) : ∀ (l : List Ln) (i : Nat) (a : Grid × List Ln), walkL (pF c free pol F) fin i l a = match plan1 c free pol l a with | some b => fin b | none => F
  | [], _, _ => rfl
  | x :: l, i, a => by
    simp only [walkL, plan1, pF]
    cases (decide ((splitOf c x.1 x.2.1 (rowG free x.1.toNat)).2.1 > 0) && (pol == 1)) with
    | true => rfl
    | false => simp only [cond_false]; exact walk_plan c free pol F fin l (i + 1) _

abbrev Z : Int × Int × Int × Unit × Unit × Unit × Int × Int × Int × Int × Unit := (0, (0, (0, ((), ((), ((), (0, (0, (0, (0, ()))))))))))

structure LinesIn (c : Cg) (free : Grid) (l : List Ln) : Prop where
  skus : ∀ x ∈ l, 0 ≤ x.1 ∧ x.1 < c.1
  qty : ∀ x ∈ l, 1 ≤ x.2.1 ∧ x.2.1 < 9223372036854775808
  four : free.length = 4
  rows : ∀ k : Nat, k < 4 → (rowG free k).length = 4
  few : l.length ≤ 3

theorem row_at {g : Grid} (h : g.length = 4) {n : Nat} (hn : n < 4) : g[n]? = some (rowG g n) := by
  unfold rowG; rw [List.getD_eq_getElem?_getD, List.getElem?_eq_getElem (by omega)]; rfl

theorem plan_l1 {c : Cg} (hc : Prio c) (hs : ∀ (sku qty : Int) (free : List Int), 0 ≤ sku ∧ sku < 256 → -9223372036854775808 ≤ qty ∧ qty < 9223372036854775808 → free.length = 4 → alloc_Split c sku qty free = some (splitOf c sku qty free))
    (r : Req) (free : Grid) (hL : LinesIn c free r.2.2.2.1) :
    iterL alloc_Plan.l1 loopN (((), ((), ((), ((), ((), ((), (r.2.2.2.1, ((r.2.2.2.1.length : Int), 0)))))))), (c, (r, (free, (Z, ((1, (r.2.1, (r.2.2.1, ((), ((), ((), (0, (0, (0, (0, ())))))))))), (zeroG, (r.2.2.2.1, ([], ()))))))))) =
      some (match plan1 c free r.2.2.1 r.2.2.2.1 (zeroG, []) with | some a => .inl (((), ((), ((), ()))), (r, (Z, ((1, (r.2.1, (r.2.2.1, ((), ((), ((), (0, (0, (0, (0, ())))))))))), (a.1, (r.2.2.2.1, (a.2, ()))))))) | none => .inr (((), 15), (Z, ()))) := by
  have hsk : 1 ≤ c.1 ∧ c.1 ≤ 3 := by rcases hc.skus with e | e | e <;> omega
  have := loop_walk (step := alloc_Plan.l1) r.2.2.2.1 (fun i (a : Grid × List Ln) => (((), ((), ((), ((), ((), ((), (r.2.2.2.1, ((r.2.2.2.1.length : Int), (i : Int))))))))), (c, (r, (free, (Z, ((1, (r.2.1, (r.2.2.1, ((), ((), ((), (0, (0, (0, (0, ())))))))))), (a.1, (r.2.2.2.1, (a.2, ())))))))))) (pF c free r.2.2.1 (.inr (((), 15), (Z, ()))))
    (fun a => .inl (((), ((), ((), ()))), (r, (Z, ((1, (r.2.1, (r.2.2.1, ((), ((), ((), (0, (0, (0, (0, ())))))))))), (a.1, (r.2.2.2.1, (a.2, ())))))))) (fun i a => a.1.length = 4 ∧ a.2.length ≤ i) (zeroG, []) (by have := hL.few; omega) ⟨rfl, Nat.le_refl _⟩ (fun i x a hx hI => by
    have hi := get_lt hx
    have h1 := hL.skus x (get_mem hx)
    have h2 := hL.qty x (get_mem hx)
    have hf := hL.few
    obtain ⟨n, hn⟩ : ∃ n : Nat, x.1 = (n : Int) := Int.eq_ofNat_of_zero_le h1.1
    have hnt : x.1.toNat = n := by omega
    have hn4 : n < 4 := by omega
    have w3 := succ_i64 (show i < 9223372036854775807 by omega)
    have c1 : (decide (0 ≤ x.1) && decide (x.1 < 4)) = true := by rw [dec_t (by omega), dec_t (by omega)]; rfl
    refine ⟨?_, fun b hb => ?_⟩
    · unfold alloc_Plan.l1 pF
      simp only [dec_t (show (i : Int) < (r.2.2.2.1.length : Int) by omega), cond_true]
      rw [nthK_get hx, chk_true c1, hnt]
      have e1 : ∀ (R : Type) (k : List Int → Option R), nthK free x.1 k = k (rowG free n) := fun R k => by rw [hn]; exact nthK_get (row_at hL.four hn4)
      have e2 : ∀ (R : Type) (k : Nat → Option R), natK x.1 k = k n := fun R k => by rw [hn]; rfl
      rw [e1, hs x.1 x.2.1 (rowG free n) (by omega) (by omega) (hL.rows n hn4), Option.bind_some, chk_true c1, e2, nthN_get (row_at hI.1 hn4), room_ok (by simp; omega), w3]
      unfold owe
      cases decide ((splitOf c x.1 x.2.1 (rowG free n)).2.1 > 0) with
      | true =>
        cases (r.2.2.1 == 1) with
        | true => rfl
        | false => rfl
      | false => simp only [cond_false, Bool.false_and, List.append_nil]
    · unfold pF at hb
      rw [hnt] at hb
      cases hq : (decide ((splitOf c x.1 x.2.1 (rowG free n)).2.1 > 0) && (r.2.2.1 == 1)) with
      | true => rw [hq] at hb; cases hb
      | false =>
        rw [hq] at hb
        cases hb
        refine ⟨by simpa using hI.1, ?_⟩
        have : (owe (splitOf c x.1 x.2.1 (rowG free n)) x.1).length ≤ 1 := by unfold owe; cases decide ((splitOf c x.1 x.2.1 (rowG free n)).2.1 > 0) <;> simp
        simp only [List.length_append]; omega) (fun a _ => by
    unfold alloc_Plan.l1
    simp only [dec_f (show ¬ (r.2.2.2.1.length : Int) < (r.2.2.2.1.length : Int) by omega), cond_false])
  rw [show (((0 : Nat) : Int)) = 0 from rfl, walk_plan] at this
  exact this

theorem refplan_l1 {c : Cg} (hc : Prio c) (r : Req) (free : Grid) (hL : LinesIn c free r.2.2.2.1) :
    iterL pledgeref33_Plan.l1 loopN (((), ((), ((), ((), ((), ((), 0)))))), (c, (r, (free, (Z, ((1, (r.2.1, (r.2.2.1, (r.2.2.2.1, ((), ((), (0, (0, (0, (0, ())))))))))), (zeroG, ([], ())))))))) =
      some (match plan1 c free r.2.2.1 r.2.2.2.1 (zeroG, []) with | some a => .inl (((), ((), ((), ()))), (r, (Z, ((1, (r.2.1, (r.2.2.1, (r.2.2.2.1, ((), ((), (0, (0, (0, (0, ())))))))))), (a.1, (a.2, ())))))) | none => .inr (((), 15), (Z, ()))) := by
  have hsk : 1 ≤ c.1 ∧ c.1 ≤ 3 := by rcases hc.skus with e | e | e <;> omega
  have := loop_walk (step := pledgeref33_Plan.l1) r.2.2.2.1 (fun i (a : Grid × List Ln) => (((), ((), ((), ((), ((), ((), (i : Int))))))), (c, (r, (free, (Z, ((1, (r.2.1, (r.2.2.1, (r.2.2.2.1, ((), ((), (0, (0, (0, (0, ())))))))))), (a.1, (a.2, ()))))))))) (pF c free r.2.2.1 (.inr (((), 15), (Z, ()))))
    (fun a => .inl (((), ((), ((), ()))), (r, (Z, ((1, (r.2.1, (r.2.2.1, (r.2.2.2.1, ((), ((), (0, (0, (0, (0, ())))))))))), (a.1, (a.2, ()))))))) (fun i a => a.1.length = 4 ∧ a.2.length ≤ i) (zeroG, []) (by have := hL.few; omega) ⟨rfl, Nat.le_refl _⟩ (fun i x a hx hI => by
    have hi := get_lt hx
    have h1 := hL.skus x (get_mem hx)
    have h2 := hL.qty x (get_mem hx)
    have hf := hL.few
    obtain ⟨n, hn⟩ : ∃ n : Nat, x.1 = (n : Int) := Int.eq_ofNat_of_zero_le h1.1
    have hnt : x.1.toNat = n := by omega
    have hn4 : n < 4 := by omega
    have w3 := succ_i64 (show i < 9223372036854775807 by omega)
    have c1 : (decide (0 ≤ x.1) && decide (x.1 < 4)) = true := by rw [dec_t (by omega), dec_t (by omega)]; rfl
    refine ⟨?_, fun b hb => ?_⟩
    · unfold pledgeref33_Plan.l1 pF
      simp only [dec_t (show (i : Int) < (r.2.2.2.1.length : Int) by omega), cond_true]
      rw [nthK_get hx, chk_true c1, hnt]
      have e1 : ∀ (R : Type) (k : List Int → Option R), nthK free x.1 k = k (rowG free n) := fun R k => by rw [hn]; exact nthK_get (row_at hL.four hn4)
      have e2 : ∀ (R : Type) (k : Nat → Option R), natK x.1 k = k n := fun R k => by rw [hn]; rfl
      rw [e1, refSplit_val hc x.1 x.2.1 (rowG free n) (by omega) (by omega) (hL.rows n hn4), Option.bind_some]
      unfold owe
      cases hl : decide ((splitOf c x.1 x.2.1 (rowG free n)).2.1 > 0) with
      | true =>
        cases (r.2.2.1 == 1) with
        | true => rfl
        | false =>
          simp only [cond_true, cond_false, Option.bind_some, Bool.and_false, hl]
          rw [room_ok (by simp; omega), chk_true c1, e2, nthN_get (row_at hI.1 hn4), w3]
      | false =>
        simp only [cond_false, Option.bind_some, Bool.false_and, hl]
        rw [chk_true c1, e2, nthN_get (row_at hI.1 hn4), w3, List.append_nil]
    · unfold pF at hb
      rw [hnt] at hb
      cases hq : (decide ((splitOf c x.1 x.2.1 (rowG free n)).2.1 > 0) && (r.2.2.1 == 1)) with
      | true => rw [hq] at hb; cases hb
      | false =>
        rw [hq] at hb
        cases hb
        refine ⟨by simpa using hI.1, ?_⟩
        have : (owe (splitOf c x.1 x.2.1 (rowG free n)) x.1).length ≤ 1 := by unfold owe; cases decide ((splitOf c x.1 x.2.1 (rowG free n)).2.1 > 0) <;> simp
        simp only [List.length_append]; omega) (fun a _ => by
    unfold pledgeref33_Plan.l1
    simp only [dec_f (show ¬ (r.2.2.2.1.length : Int) < (r.2.2.2.1.length : Int) by omega), cond_false])
  rw [show (((0 : Nat) : Int)) = 0 from rfl, walk_plan] at this
  exact this

/-! ### Takes -/
theorem fold_takes (id : Int) (g : Grid) : ∀ (k i : Nat) (acc : List Tk), foldF (fun n a => a ++ takeAt id g n) i k acc = acc ++ takesFrom id g i k
  | 0, i, acc => by simp [foldF, takesFrom]
  | k + 1, i, acc => by simp only [foldF, fold_takes id g k (i + 1), takesFrom, List.append_assoc]

theorem cell_get {g : Grid} (hl : g.length = 4) (hr : ∀ k : Nat, k < 4 → (rowG g k).length = 4) {R : Type} (k w : Nat) (hk : k < 4) (hw : w < 4) (f : Int → Option R) : (nthK g (k : Int) fun e => nthK e (w : Int) f) = f (cellG g k w) := by
  rw [nthK_get (row_at hl hk)]
  have := hr k hk
  refine nthK_get ?_
  unfold cellG
  rw [List.getD_eq_getElem?_getD, List.getElem?_eq_getElem (by omega)]; rfl

theorem plan_l2 (r : Req) (Y : Int × Int × Int × Unit × Unit × Unit × Int × Int × Int × Int × Unit) (g : Grid) (ls o : List Ln) (hl : g.length = 4) (hr : ∀ k : Nat, k < 4 → (rowG g k).length = 4) :
    iterL alloc_Plan.l2 loopN (((), ((), ((), ((), 0)))), (r, (Z, (Y, (g, (ls, ([], (o, ())))))))) = some (((), ()), (Z, (Y, (ls, (takesFrom r.2.1 g 0 16, (o, ())))))) := by
  have := (loop_fold (step := alloc_Plan.l2) (fun i (acc : List Tk) => (((), ((), ((), ((), (i : Int))))), (r, (Z, (Y, (g, (ls, (acc, (o, ()))))))))) (fun n a => a ++ takeAt r.2.1 g n) (fun acc => (((), ()), (Z, (Y, (ls, (acc, (o, ()))))))) (fun i acc => acc.length ≤ i) 16 [] (by omega) (by simp) (fun i acc hi hI => by
    refine ⟨?_, by have := takeAt_len r.2.1 g i; simp only [List.length_append]; omega⟩
    have m1 : Int.tmod (i : Int) 4 = ((i % 4 : Nat) : Int) := by rw [Int.tmod_eq_emod_of_nonneg (by omega)]; omega
    have m2 : IntKind.i64.wrap (Int.tdiv (i : Int) 4) = ((i / 4 : Nat) : Int) := by rw [Int.tdiv_eq_ediv_of_nonneg (by omega), wrap_i64 (by omega) (by omega)]; omega
    have m3 : IntKind.u8.wrap ((i % 4 : Nat) : Int) = ((i % 4 : Nat) : Int) := wrap_u8 (by omega) (by omega)
    have m4 : IntKind.u8.wrap ((i / 4 : Nat) : Int) = ((i / 4 : Nat) : Int) := wrap_u8 (by omega) (by omega)
    have c1 : (decide (0 ≤ ((i % 4 : Nat) : Int)) && decide (((i % 4 : Nat) : Int) < 4)) = true := by rw [dec_t (by omega), dec_t (by omega)]; rfl
    have c2 : (decide (0 ≤ ((i / 4 : Nat) : Int)) && decide (((i / 4 : Nat) : Int) < 4)) = true := by rw [dec_t (by omega), dec_t (by omega)]; rfl
    unfold alloc_Plan.l2 takeAt
    simp only [dec_t (show (i : Int) < 16 by omega), cond_true, m1, m2, m3, m4]
    rw [chk_true c1, chk_true c2, cell_get hl hr _ _ (by omega) (by omega), succ_i64 (by omega)]
    cases decide (cellG g (i % 4) (i / 4) > 0) with
    | false => simp only [cond_false, List.append_nil]
    | true =>
      simp only [cond_true]
      rw [chk_true c1, chk_true c2, cell_get hl hr _ _ (by omega) (by omega), room_ok (by simp; omega)]
      rfl) (fun acc _ => rfl)).1
  rw [show (((0 : Nat) : Int)) = 0 from rfl, fold_takes] at this
  exact this

theorem refplan_l3 (r : Req) (Y : Int × Int × Int × List Ln × Unit × Unit × Int × Int × Int × Int × Unit) (g : Grid) (o : List Ln) (hl : g.length = 4) (hr : ∀ k : Nat, k < 4 → (rowG g k).length = 4) (w : Nat) (hw : w < 4) (acc0 : List Tk) (ha : acc0.length ≤ 1000) :
    iterL pledgeref33_Plan.l3 loopN (((), ((), ((), ((), ((w : Int), 0))))), (r, (Z, (Y, (g, (acc0, (o, ()))))))) = some (((), ((), ((), ((), (w : Int))))), (r, (Z, (Y, (g, (acc0 ++ takesFrom r.2.1 g (4 * w) 4, (o, ()))))))) := by
  have := (loop_fold (step := pledgeref33_Plan.l3) (fun i (acc : List Tk) => (((), ((), ((), ((), ((w : Int), (i : Int)))))), (r, (Z, (Y, (g, (acc, (o, ())))))))) (fun n a => a ++ takeAt r.2.1 g (4 * w + n)) (fun acc => (((), ((), ((), ((), (w : Int))))), (r, (Z, (Y, (g, (acc, (o, ())))))))) (fun i acc => acc.length ≤ i + 1000) 4 acc0 (by omega) (by omega) (fun i acc hi hI => by
    refine ⟨?_, by have := takeAt_len r.2.1 g (4 * w + i); simp only [List.length_append]; omega⟩
    have m3 : IntKind.u8.wrap (i : Int) = (i : Int) := wrap_u8 (by omega) (by omega)
    have m4 : IntKind.u8.wrap (w : Int) = (w : Int) := wrap_u8 (by omega) (by omega)
    have c1 : (decide (0 ≤ (i : Int)) && true) = true := by rw [dec_t (by omega)]; rfl
    have c2 : (decide (0 ≤ (w : Int)) && decide ((w : Int) < 4)) = true := by rw [dec_t (by omega), dec_t (by omega)]; rfl
    unfold pledgeref33_Plan.l3 takeAt elemAt
    rw [show (4 * w + i) % 4 = i by omega, show (4 * w + i) / 4 = w by omega]
    simp only [dec_t (show (i : Int) < 4 by omega), cond_true, m3, m4]
    rw [chk_true c1, chk_true c2, cell_get hl hr _ _ (by omega) hw, succ_i64 (by omega)]
    cases decide (cellG g i w > 0) with
    | false => simp only [cond_false, List.append_nil]
    | true =>
      simp only [cond_true]
      rw [chk_true c1, chk_true c2, cell_get hl hr _ _ (by omega) hw, room_ok (by simp; omega)]) (fun acc _ => rfl)).1
  rw [show (((0 : Nat) : Int)) = 0 from rfl] at this
  have e : ∀ (k i : Nat) (acc : List Tk), foldF (fun n a => a ++ takeAt r.2.1 g (4 * w + n)) i k acc = acc ++ takesFrom r.2.1 g (4 * w + i) k := by
    intro k
    induction k with
    | zero => intro i acc; simp [foldF, takesFrom]
    | succ k ih => intro i acc; simp only [foldF, ih, takesFrom, List.append_assoc]; rfl
  rw [e] at this
  exact this

theorem refplan_l2 (r : Req) (Y : Int × Int × Int × List Ln × Unit × Unit × Int × Int × Int × Int × Unit) (g : Grid) (o : List Ln) (hl : g.length = 4) (hr : ∀ k : Nat, k < 4 → (rowG g k).length = 4) :
    iterL pledgeref33_Plan.l2 loopN (((), ((), ((), ((), 0)))), (r, (Z, (Y, (g, ([], (o, ()))))))) = some (((), ()), (Z, (Y, (takesFrom r.2.1 g 0 16, (o, ()))))) := by
  have := (loop_fold (step := pledgeref33_Plan.l2) (fun i (acc : List Tk) => (((), ((), ((), ((), (i : Int))))), (r, (Z, (Y, (g, (acc, (o, ())))))))) (fun w a => a ++ takesFrom r.2.1 g (4 * w) 4) (fun acc => (((), ()), (Z, (Y, (acc, (o, ())))))) (fun i acc => acc.length ≤ 4 * i) 4 [] (by omega) (by simp) (fun i acc hi hI => by
    have hlen : ∀ m j, (takesFrom r.2.1 g j m).length ≤ m := by
      intro m
      induction m with
      | zero => intro j; simp [takesFrom]
      | succ m ih => intro j; have := ih (j + 1); have := takeAt_len r.2.1 g j; simp only [takesFrom, List.length_append]; omega
    refine ⟨?_, by have := hlen 4 (4 * i); simp only [List.length_append]; omega⟩
    unfold pledgeref33_Plan.l2
    simp only [dec_t (show (i : Int) < 4 by omega), cond_true]
    rw [refplan_l3 r Y g o hl hr i hi acc (by omega), Option.bind_some, succ_i64 (by omega)]) (fun acc _ => rfl)).1
  rw [show (((0 : Nat) : Int)) = 0 from rfl] at this
  have e : foldF (fun w a => a ++ takesFrom r.2.1 g (4 * w) 4) 0 4 [] = takesFrom r.2.1 g 0 16 := by
    rw [takes_parts]
    simp only [foldF, List.nil_append, List.append_assoc, Nat.reduceMul, Nat.reduceAdd]
  rw [e] at this
  exact this
end Go.Proofs.Pure
