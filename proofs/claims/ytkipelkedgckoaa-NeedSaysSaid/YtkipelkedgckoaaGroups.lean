/- Takes in order, warehouse by warehouse. -/
import Derived.Test.YtkipelkedgckoaaRefGood
import Derived.Test.YtkipelkedgckoaaStepGood
set_option linter.unusedVariables false
namespace Go.Proofs.Pure
open Go.Proofs.D Go.Proofs.F

def lineOf (x : Tk) : Ln := (x.2.1, (x.2.2.2.1, ()))
def itemG (w : Int) (x : Tk) : List Ln := bif x.2.2.1 == w then [lineOf x] else []
def itemsAt (w : Int) (l : List Tk) : List Ln := l.flatMap (itemG w)
def grp1 (tg w : Int) : List Ln → List Stp | [] => [] | a :: l => [(tg, (w, (a :: l, ())))]
def grps (tg : Int) (l : List Tk) : List Stp := grp1 tg 0 (itemsAt 0 l) ++ (grp1 tg 1 (itemsAt 1 l) ++ (grp1 tg 2 (itemsAt 2 l) ++ grp1 tg 3 (itemsAt 3 l)))

theorem itemsAt_snoc (w : Int) (l : List Tk) (x : Tk) : itemsAt w (l ++ [x]) = itemsAt w l ++ itemG w x := by
  unfold itemsAt; rw [List.flatMap_append]; simp
theorem itemG_yes {w : Int} {x : Tk} (h : x.2.2.1 = w) : itemG w x = [lineOf x] := by unfold itemG; rw [show (x.2.2.1 == w) = true by simp [h]]; rfl
theorem itemG_no {w : Int} {x : Tk} (h : x.2.2.1 ≠ w) : itemG w x = [] := by unfold itemG; rw [show (x.2.2.1 == w) = false by simp [h]]; rfl
theorem itemsAt_nil {w : Int} : ∀ {l : List Tk}, (∀ y ∈ l, y.2.2.1 ≠ w) → itemsAt w l = []
  | [], _ => rfl
  | y :: l, h => by
    show itemG w y ++ itemsAt w l = []
    rw [itemG_no (h y List.mem_cons_self), itemsAt_nil fun z hz => h z (List.mem_cons_of_mem _ hz)]; rfl
theorem itemsAt_ne {w : Int} : ∀ {l : List Tk} {y : Tk}, y ∈ l → y.2.2.1 = w → itemsAt w l ≠ []
  | z :: l, y, h, e => by
    show itemG w z ++ itemsAt w l ≠ []
    rcases List.mem_cons.1 h with q | q
    · subst q; rw [itemG_yes e]; simp
    · have := itemsAt_ne q e; simp [this]
theorem grp1_ne {tg w : Int} {a : List Ln} (h : a ≠ []) : grp1 tg w a = [(tg, (w, (a, ())))] := by cases a with | nil => exact absurd rfl h | cons _ _ => rfl

theorem grps_new {tg : Int} {l : List Tk} {x : Tk} (hk : 0 ≤ x.2.2.1 ∧ x.2.2.1 < 4) (hs : ∀ y ∈ l, y.2.2.1 ≤ x.2.2.1) (hn : itemsAt x.2.2.1 l = []) : grps tg (l ++ [x]) = grps tg l ++ [(tg, (x.2.2.1, ([lineOf x], ())))] := by
  unfold grps
  simp only [itemsAt_snoc]
  rcases four hk with e | e | e | e
  · rw [itemsAt_nil (w := 1) fun y hy q => by have := hs y hy; omega, itemsAt_nil (w := 2) fun y hy q => by have := hs y hy; omega, itemsAt_nil (w := 3) fun y hy q => by have := hs y hy; omega]
    rw [e] at hn ⊢
    rw [hn, itemG_yes e, itemG_no (w := 1) (by omega), itemG_no (w := 2) (by omega), itemG_no (w := 3) (by omega)]; rfl
  · rw [itemsAt_nil (w := 2) fun y hy q => by have := hs y hy; omega, itemsAt_nil (w := 3) fun y hy q => by have := hs y hy; omega]
    rw [e] at hn ⊢
    rw [hn, itemG_yes e, itemG_no (w := 0) (by omega), itemG_no (w := 2) (by omega), itemG_no (w := 3) (by omega)]; simp [grp1]
  · rw [itemsAt_nil (w := 3) fun y hy q => by have := hs y hy; omega]
    rw [e] at hn ⊢
    rw [hn, itemG_yes e, itemG_no (w := 0) (by omega), itemG_no (w := 1) (by omega), itemG_no (w := 3) (by omega)]; simp [grp1]
  · rw [e] at hn ⊢
    rw [hn, itemG_yes e, itemG_no (w := 0) (by omega), itemG_no (w := 1) (by omega), itemG_no (w := 2) (by omega)]; simp [grp1]

theorem grps_old {tg : Int} {l : List Tk} {x : Tk} (hk : 0 ≤ x.2.2.1 ∧ x.2.2.1 < 4) (hs : ∀ y ∈ l, y.2.2.1 ≤ x.2.2.1) (hn : itemsAt x.2.2.1 l ≠ []) :
    ∃ pre a, grps tg l = pre ++ [(tg, (x.2.2.1, (a, ())))] ∧ grps tg (l ++ [x]) = pre ++ [(tg, (x.2.2.1, (a ++ [lineOf x], ())))] := by
  have hne : itemsAt x.2.2.1 l ++ [lineOf x] ≠ [] := by simp
  unfold grps
  simp only [itemsAt_snoc]
  rcases four hk with e | e | e | e
  · rw [itemsAt_nil (w := 1) fun y hy q => by have := hs y hy; omega, itemsAt_nil (w := 2) fun y hy q => by have := hs y hy; omega, itemsAt_nil (w := 3) fun y hy q => by have := hs y hy; omega]
    rw [e] at hn hne ⊢
    rw [itemG_yes e, itemG_no (w := 1) (by omega), itemG_no (w := 2) (by omega), itemG_no (w := 3) (by omega), grp1_ne hn, grp1_ne hne]
    exact ⟨[], itemsAt 0 l, by simp [grp1], by simp [grp1]⟩
  · rw [itemsAt_nil (w := 2) fun y hy q => by have := hs y hy; omega, itemsAt_nil (w := 3) fun y hy q => by have := hs y hy; omega]
    rw [e] at hn hne ⊢
    rw [itemG_yes e, itemG_no (w := 0) (by omega), itemG_no (w := 2) (by omega), itemG_no (w := 3) (by omega), grp1_ne hn, grp1_ne hne]
    exact ⟨grp1 tg 0 (itemsAt 0 l), itemsAt 1 l, by simp [grp1], by simp [grp1]⟩
  · rw [itemsAt_nil (w := 3) fun y hy q => by have := hs y hy; omega]
    rw [e] at hn hne ⊢
    rw [itemG_yes e, itemG_no (w := 0) (by omega), itemG_no (w := 1) (by omega), itemG_no (w := 3) (by omega), grp1_ne hn, grp1_ne hne]
    exact ⟨grp1 tg 0 (itemsAt 0 l) ++ grp1 tg 1 (itemsAt 1 l), itemsAt 2 l, by simp [grp1], by simp [grp1]⟩
  · rw [e] at hn hne ⊢
    rw [itemG_yes e, itemG_no (w := 0) (by omega), itemG_no (w := 1) (by omega), itemG_no (w := 2) (by omega), grp1_ne hn, grp1_ne hne]
    exact ⟨grp1 tg 0 (itemsAt 0 l) ++ (grp1 tg 1 (itemsAt 1 l) ++ grp1 tg 2 (itemsAt 2 l)), itemsAt 3 l, by simp [grp1], by simp [grp1]⟩

/-- Takes in order: by warehouse, and article. -/
structure Sorted (id : Int) (t : List Tk) : Prop where
  base : ∀ i, i < t.length → (at1 t i).1 = id ∧ (0 ≤ (at1 t i).2.1 ∧ (at1 t i).2.1 < 4) ∧ (0 ≤ (at1 t i).2.2.1 ∧ (at1 t i).2.2.1 < 4) ∧ 1 ≤ (at1 t i).2.2.2.1
  rise : ∀ i j, i < j → j < t.length → (at1 t i).2.2.1 < (at1 t j).2.2.1 ∨ (at1 t i).2.2.1 = (at1 t j).2.2.1 ∧ (at1 t i).2.1 < (at1 t j).2.1
  apart : ∀ i, i + 3 < t.length → (at1 t i).2.2.1 ≠ (at1 t (i + 3)).2.2.1

theorem sorted_of {id : Int} {t : List Tk} (hw : ∀ x ∈ t, WfE kTake x) (h : takesB 4 4 id t = true) : Sorted id t := by
  unfold takesB at h
  simp only [Bool.and_eq_true, decide_eq_true_eq] at h
  have hq := fun i (hi : i < t.length) => allFrom_at h.1 hi
  have hb : ∀ i, i < t.length → (at1 t i).1 = id ∧ (0 ≤ (at1 t i).2.1 ∧ (at1 t i).2.1 < 4) ∧ (0 ≤ (at1 t i).2.2.1 ∧ (at1 t i).2.2.1 < 4) ∧ 1 ≤ (at1 t i).2.2.2.1 := fun i hi => by
    have h1 := hq i hi
    have h2 := wfT hw hi
    unfold takeR takeQ tkBase at h1
    simp only [Bool.and_eq_true, Bool.not_eq_true', decide_eq_false_iff_not, bne_eq_false_iff_eq] at h1
    obtain ⟨⟨⟨a, b, c, d⟩, _⟩, _⟩ := h1
    exact ⟨a, by omega, by omega, by omega⟩
  have adj : ∀ i, i + 1 < t.length → (at1 t i).2.2.1 < (at1 t (i + 1)).2.2.1 ∨ (at1 t i).2.2.1 = (at1 t (i + 1)).2.2.1 ∧ (at1 t i).2.1 < (at1 t (i + 1)).2.1 := fun i hi => by
    have h1 := hq (i + 1) hi
    unfold takeR takeQ tkPrev at h1
    simp only [Bool.and_eq_true, Bool.or_eq_true, Bool.not_eq_true', decide_eq_false_iff_not, Bool.and_eq_false_iff, beq_eq_false_iff_ne, ne_eq, Nat.add_sub_cancel] at h1
    obtain ⟨⟨_, hp⟩, _⟩ := h1
    rcases hp with q | ⟨q1, q2⟩
    · cases q
    · by_cases e : (at1 t i).2.2.1 = (at1 t (i + 1)).2.2.1
      · exact .inr ⟨e, by rcases q2 with q | q; exact absurd e q; omega⟩
      · exact .inl (by omega)
  refine ⟨hb, fun i j hij => ?_, fun i hi q => ?_⟩
  · induction j with
    | zero => omega
    | succ j ih =>
      intro hj
      have h1 := adj j hj
      by_cases e : i = j
      · subst e; exact h1
      · have h2 := ih (by omega) (by omega)
        omega
  · have h1 := hq (i + 3) hi
    unfold takeR at h1
    simp only [Bool.and_eq_true, Bool.or_eq_true, Bool.not_eq_true', beq_eq_false_iff_ne, ne_eq, Nat.add_sub_cancel] at h1
    rcases h1.2 with q1 | q1
    · have := Nat.le_of_ble_eq_true q1; omega
    · exact q1 q

theorem take_snoc {t : List Tk} {j : Nat} (h : j < t.length) : t.take (j + 1) = t.take j ++ [at1 t j] := by
  rw [List.take_add_one, at1_get h]; rfl
theorem drop_cons {t : List Tk} {j : Nat} (h : j < t.length) : t.drop j = at1 t j :: t.drop (j + 1) := by
  rw [List.drop_eq_getElem_cons h]
  have := at1_get h
  rw [List.getElem?_eq_getElem h] at this
  rw [Option.some.inj this]
theorem mem_take {t : List Tk} {j : Nat} {y : Tk} (h : y ∈ t.take j) : ∃ i, i < j ∧ i < t.length ∧ y = at1 t i := by
  obtain ⟨i, hi, e⟩ := List.getElem_of_mem h
  have hi2 : i < j ∧ i < t.length := by simp at hi; omega
  refine ⟨i, hi2.1, hi2.2, ?_⟩
  have := at1_get hi2.2
  rw [List.getElem?_eq_getElem hi2.2] at this
  rw [← e, ← Option.some.inj this]; simp

section
variable {id : Int} {t : List Tk}
theorem Sorted.le (h : Sorted id t) {j : Nat} (hj : j < t.length) : ∀ y ∈ t.take j, y.2.2.1 ≤ (at1 t j).2.2.1 := fun y hy => by
  obtain ⟨i, h1, h2, e⟩ := mem_take hy
  subst e
  have := h.rise i j h1 hj; omega
theorem Sorted.new (h : Sorted id t) {j : Nat} (hj : j + 1 < t.length) (hn : (at1 t j).2.2.1 ≠ (at1 t (j + 1)).2.2.1) : itemsAt (at1 t (j + 1)).2.2.1 (t.take (j + 1)) = [] := by
  refine itemsAt_nil fun y hy q => ?_
  obtain ⟨i, h1, h2, e⟩ := mem_take hy
  subst e
  have h3 := h.rise j (j + 1) (by omega) hj
  by_cases e : i = j
  · subst e; exact hn q
  · have h4 := h.rise i j (by omega) (by omega); omega

theorem stepsGo_val (h : Sorted id t) (tg : Int) : ∀ (k j : Nat), j + k = t.length → prog_Steps.stepsGo tg t j (t.drop j) (grps tg (t.take j)) = some (grps tg t)
  | 0, j, hj => by
    have : j = t.length := by omega
    subst this
    rw [List.drop_length, List.take_length]; rfl
  | k + 1, j, hj => by
    have hlt : j < t.length := by omega
    have ih := stepsGo_val h tg k (j + 1) (by omega)
    rw [take_snoc hlt] at ih
    have hb := (h.base j hlt).2.2.1
    rw [drop_cons hlt]
    have new : itemsAt (at1 t j).2.2.1 (t.take j) = [] → prog_Steps.stepsGo tg t (j + 1) (t.drop (j + 1)) (grps tg (t.take j) ++ [(tg, ((at1 t j).2.2.1, ([((at1 t j).2.1, ((at1 t j).2.2.2.1, ()))], ())))]) = some (grps tg t) := fun hn => by
      rw [grps_new hb (h.le hlt) hn] at ih; exact ih
    cases j with
    | zero =>
      show ((some true).bind _) = _
      exact new (by simp [itemsAt])
    | succ j =>
      show (((t[j]?).map _).bind _) = _
      rw [at1_get (by omega : j < t.length)]
      simp only [Option.map_some, Option.bind_some]
      by_cases e : (at1 t j).2.2.1 = (at1 t (j + 1)).2.2.1
      · rw [show ((at1 t j).2.2.1 != (at1 t (j + 1)).2.2.1) = false by simp [e]]
        have hm : at1 t j ∈ t.take (j + 1) := by rw [take_snoc (by omega)]; simp
        obtain ⟨pre, a, g1, g2⟩ := grps_old (tg := tg) hb (h.le hlt) (itemsAt_ne hm e)
        rw [g1]
        simp only [List.getLast?_append, List.getLast?_singleton, Option.some_or, List.dropLast_concat]
        rw [g2] at ih; exact ih
      · rw [show ((at1 t j).2.2.1 != (at1 t (j + 1)).2.2.1) = true by simp [e]]
        exact new (h.new hlt e)

theorem tag_val {k : Int} (hk : k = 1 ∨ k = 2 ∨ k = 3 ∨ k = 4) : prog_tag k = some k := by
  rcases hk with e | e | e | e <;> subst e <;> rfl

theorem stepsG_val (p : Prg) (h : Sorted id p.2.2.2.2.1) (hk : p.1 = 1 ∨ p.1 = 2 ∨ p.1 = 3 ∨ p.1 = 4) (hl : p.2.2.2.2.1.length ≤ 100000) :
    prog_Steps.stepsG (((), ((), (p.2.2.2.2.1, ((p.2.2.2.2.1.length : Int), 0)))), (p, ())) = some (((), ()), (p, (grps p.1 p.2.2.2.2.1, ()))) := by
  unfold prog_Steps.stepsG
  simp only [decide_true, Bool.true_and, Nat.ble_eq_true_of_le hl, cond_true, tag_val hk, Option.bind_some]
  have := stepsGo_val h p.1 p.2.2.2.2.1.length 0 (by omega)
  simp only [List.drop_zero, List.take_zero] at this
  rw [show grps p.1 [] = [] from rfl] at this
  rw [this]; rfl

/-! ### The reference's way -/
theorem at_val (tg w : Int) (hw : 0 ≤ w ∧ w < 4) (t : List Tk) (ht : t.length < 1000) (hwf : ∀ x ∈ t, WfE kTake x) : pledgeref13_at tg w t = some (tg, (w, (itemsAt w t, ()))) := by
  unfold pledgeref13_at
  have := loop_walk (step := pledgeref13_at.l1) t (fun i (acc : List Ln) => ((w, (t, ((), ((), (i : Int))))), ((0, (0, ((), ()))), ((tg, (IntKind.u8.wrap w, ((), ()))), (acc, ()))))) (fun _ y acc => .inl (acc ++ itemG w y)) (fun acc => (((), ()), ((0, (0, ((), ()))), ((tg, (IntKind.u8.wrap w, ((), ()))), (acc, ()))))) (fun i acc => acc.length ≤ i) [] (by omega) (Nat.le_refl _) (fun i y acc hx hi => by
    have hi2 := get_lt hx
    have hy := wf_u8 (hwf y (get_mem hx)).2.2.1
    have hg : (itemG w y).length ≤ 1 := by unfold itemG; cases (y.2.2.1 == w) <;> simp
    refine ⟨?_, fun _ h => by cases h; simp only [List.length_append]; omega⟩
    unfold pledgeref13_at.l1
    simp only [dec_t (show (i : Int) < (t.length : Int) by omega), cond_true]
    rw [nthK_get hx, wrap_i64 (show -9223372036854775808 ≤ y.2.2.1 by omega) (by omega)]
    unfold itemG lineOf
    cases (y.2.2.1 == w) with
    | true =>
      simp only [cond_true]
      rw [nthK_get hx, nthK_get hx, room_ok (by simp; omega), succ_i64 (by omega)]
    | false => simp only [cond_false, List.append_nil]; rw [succ_i64 (by omega)]) (fun acc _ => by
    unfold pledgeref13_at.l1
    simp only [dec_f (show ¬ (t.length : Int) < (t.length : Int) by omega), cond_false])
  rw [show (((0 : Nat) : Int)) = 0 from rfl] at this
  rw [this, walk_gather, List.nil_append, wrap_u8 (by omega) (by omega)]; rfl

theorem grp1_len (tg w : Int) (a : List Ln) : (grp1 tg w a).length ≤ 1 := by cases a <;> simp [grp1]
theorem refSteps_round (p : Prg) (hl : p.2.2.2.2.1.length < 1000) (hw : ∀ x ∈ p.2.2.2.2.1, WfE kTake x) (w : Nat) (hw4 : w < 4) (acc : List Stp) (ha : acc.length ≤ w) :
    pledgeref13_Steps.l1 (((), ((), (w : Int))), (p, (acc, ()))) = some (.inl (((), ((), ((w + 1 : Nat) : Int))), (p, (acc ++ grp1 p.1 w (itemsAt w p.2.2.2.2.1), ())))) := by
  unfold pledgeref13_Steps.l1
  simp only [dec_t (show (w : Int) < 4 by omega), cond_true]
  rw [at_val p.1 w (by omega) _ hl hw, Option.bind_some]
  cases hi : itemsAt w p.2.2.2.2.1 with
  | nil =>
    rw [show decide ((((p.1, ((w : Int), (([] : List Ln), ()))) : Stp).2.2.1.length : Int) > 0) = false from rfl]
    simp only [cond_false, grp1, List.append_nil]; rw [succ_i64 (by omega)]
  | cons a l =>
    rw [dec_t (show (((p.1, ((w : Int), (a :: l, ()))) : Stp).2.2.1.length : Int) > 0 by simp)]
    simp only [cond_true, grp1]
    rw [room_ok (by simp; omega), succ_i64 (by omega)]
theorem refSteps_loop (p : Prg) (hl : p.2.2.2.2.1.length < 1000) (hw : ∀ x ∈ p.2.2.2.2.1, WfE kTake x) : iterL pledgeref13_Steps.l1 loopN (((), ((), 0)), (p, ([], ()))) = some (((), ()), (p, (grps p.1 p.2.2.2.2.1, ()))) := by
  refine iterL_mono (n := 5) ?_ (by rw [loopN_eq]; omega)
  show iterL pledgeref13_Steps.l1 5 (((), ((), ((0 : Nat) : Int))), (p, ([], ()))) = _
  have g0 := grp1_len p.1 0 (itemsAt 0 p.2.2.2.2.1)
  have g1 := grp1_len p.1 1 (itemsAt 1 p.2.2.2.2.1)
  have g2 := grp1_len p.1 2 (itemsAt 2 p.2.2.2.2.1)
  rw [iterL_next (refSteps_round p hl hw 0 (by omega) [] (by simp)), iterL_next (refSteps_round p hl hw 1 (by omega) _ (by simp; exact g0)), iterL_next (refSteps_round p hl hw 2 (by omega) _ (by simp only [List.length_append, List.length_nil]; exact Nat.le_trans (Nat.add_le_add (by simpa using g0) g1) (by omega))),
    iterL_next (refSteps_round p hl hw 3 (by omega) _ (by simp only [List.length_append, List.length_nil]; exact Nat.le_trans (Nat.add_le_add (Nat.add_le_add (by simpa using g0) g1) g2) (by omega)))]
  rw [iterL_done (x := (((), ()), (p, (([] ++ grp1 p.1 (0 : Nat) (itemsAt (0 : Nat) p.2.2.2.2.1) ++ grp1 p.1 (1 : Nat) (itemsAt (1 : Nat) p.2.2.2.2.1) ++ grp1 p.1 (2 : Nat) (itemsAt (2 : Nat) p.2.2.2.2.1) ++ grp1 p.1 (3 : Nat) (itemsAt (3 : Nat) p.2.2.2.2.1)), ())))) rfl]
  unfold grps
  simp
end
end Go.Proofs.Pure
