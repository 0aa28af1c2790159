/- A store behind programs: good; no order goes. -/
import Derived.Test.YtlmponhpepcllaaStoBase2
set_option linter.unusedVariables false
namespace Go.Proofs.Pure
open Go.Proofs.D Go.Proofs.F

def fewPB (p : Prg) : Bool := match pledgelaw13_Few p with | some n => !(n == 0) | none => false
theorem fewPB_val (p : Prg) (h : WfE kProgram p) : pledgelaw13_Few p = some (bif fewPB p then 1 else 0) ∧ (fewPB p = true → Few p) := by
  unfold fewPB
  rcases few13_val p h with e | ⟨e, a, _⟩
  · rw [e]; exact ⟨rfl, fun q => by cases q⟩
  · rw [e]; exact ⟨rfl, fun _ => a⟩
theorem fewL_val (l : List Prg) (h : WfE (.slice kProgram) l) (hl : l.length ≤ 9223372036854775807) : ∃ b, pledgelaw24_few l = some b ∧ (b = true → ∀ p ∈ l, Few p) := by
  have hwf : ∀ p ∈ l, WfE kProgram p := h.2
  unfold pledgelaw24_few
  have := loop_walk (step := pledgelaw24_few.l1) l (fun i (_ : Unit) => (l, (i : Int))) (X := Unit ⊕ Bool) (fun _ p _ => bif fewPB p then .inl () else .inr (.inr false)) (fun _ => .inl ()) (fun _ _ => True) () (by omega) trivial (fun i p _ hx _ => by
    have hi := get_lt hx
    refine ⟨?_, fun _ _ => trivial⟩
    unfold pledgelaw24_few.l1
    simp only [dec_t (show (i : Int) < (l.length : Int) by omega), cond_true]
    rw [nthK_get hx, (fewPB_val p (hwf p (get_mem hx))).1, Option.bind_some]
    cases fewPB p with
    | true => simp only [cond_true, show ((1 : Int) == 0) = false by decide, cond_false]; rw [succ_i64 (by omega)]
    | false => rfl) (fun _ _ => by
    unfold pledgelaw24_few.l1
    simp only [dec_f (show ¬ (l.length : Int) < (l.length : Int) by omega), cond_false])
  rw [show (((0 : Nat) : Int)) = 0 from rfl, walk_allfold (fun _ p => fewPB p) (fun a _ => a)] at this
  rw [this, Option.bind_some]
  cases q : allI (fun _ p => fewPB p) 0 l with
  | false => exact ⟨false, rfl, fun t => by cases t⟩
  | true =>
    refine ⟨true, rfl, fun _ p hp => ?_⟩
    obtain ⟨k, hk, e⟩ := List.getElem_of_mem hp
    exact (fewPB_val p (hwf p hp)).2 (allI_iff.1 q k p (by rw [← e]; exact List.getElem?_eq_getElem hk))

def sto0 : Sto := ([], ([], ()))
theorem good0 : GoodSt sto0 := ⟨Nat.zero_le _, (fun o ho => nomatch ho), rfl, List.nodup_nil, fun w => Iff.rfl⟩
def playS (l : List Prg) : Sto := (l.take 60).foldl (fun s p => (applyS s p).1) sto0
theorem play_good' : ∀ (l : List Prg) (s : Sto), (∀ p ∈ l, Few p) → GoodSt s → GoodSt (l.foldl (fun s p => (applyS s p).1) s)
  | [], s, _, h => h
  | p :: l, s, hp, h => play_good' l _ (fun x hx => hp x (List.mem_cons_of_mem _ hx)) (apply_good h (hp p List.mem_cons_self))
theorem play_good {l : List Prg} (h : ∀ p ∈ l, Few p) : GoodSt (playS l) := play_good' _ _ (fun p hp => h p (List.mem_of_mem_take hp)) good0
theorem play_val (l : List Prg) (hl : l.length ≤ 9223372036854775807) (h : ∀ p ∈ l, Few p) : pledgelaw24_played l = some (playS l) := by
  unfold pledgelaw24_played
  have ht : (l.take 60).length ≤ 60 ∧ (l.take 60).length ≤ l.length := by rw [List.length_take]; omega
  have hend : (l.take 60).length = l.length ∨ (l.take 60).length = 60 := by rw [List.length_take]; omega
  have := loop_walk (step := pledgelaw24_played.l1) (l.take 60) (fun i (s : Sto) => ((l, ((), ((), (i : Int)))), (((), ((), ())), (s, ())))) (X := (Unit × Unit) × (Unit × Unit × Unit) × Sto × Unit) (fun _ p s => .inl (applyS s p).1) (fun s => (((), ()), (((), ((), ())), (s, ())))) (fun _ s => GoodSt s) sto0 (by omega) good0 (fun i p s hx hs => by
    have hi := get_lt hx
    have hp := h p (List.mem_of_mem_take (get_mem hx))
    have hx' : l[i]? = some p := by rwa [List.getElem?_take_of_lt (by omega)] at hx
    refine ⟨?_, fun _ q => by cases q; exact apply_good hs hp⟩
    unfold pledgelaw24_played.l1
    simp only [dec_t (show (i : Int) < (l.length : Int) by omega), dec_t (show (i : Int) < 60 by omega), cond_true]
    rw [nthK_get hx', apply_val3 s p hs.fs hp, Option.bind_some, succ_i64 (by omega)]) (fun s _ => by
    unfold pledgelaw24_played.l1
    rcases hend with e | e
    · rw [e]
      simp only [dec_f (show ¬ (l.length : Int) < (l.length : Int) by omega), cond_false]
    · rw [e]
      by_cases c : ((60 : Nat) : Int) < (l.length : Int)
      · simp only [dec_t c, cond_true, dec_f (show ¬ ((60 : Nat) : Int) < 60 by omega), cond_false]
      · simp only [dec_f c, cond_false])
  rw [show (((0 : Nat) : Int)) = 0 from rfl, walk_foldW (fun s p => (applyS s p).1)] at this
  show (iterL pledgelaw24_played.l1 loopN ((l, ((), ((), 0))), (((), ((), ())), (sto0, ())))).bind _ = _
  rw [this]; rfl

/-! ### All orders stay -/
def SameO (x y : Ord) : Prop := x.1 = y.1 ∧ x.2.1 = y.2.1 ∧ x.2.2.1 = y.2.2.1
theorem SameO.refl (x : Ord) : SameO x x := ⟨rfl, rfl, rfl⟩
theorem SameO.trans {x y z : Ord} (h : SameO x y) (k : SameO y z) : SameO x z := ⟨h.1.trans k.1, h.2.1.trans k.2.1, h.2.2.trans k.2.2⟩
def Stays0 (s n : List Ord) : Prop := s.length = n.length ∧ ∀ i, i < s.length → SameO (s.getD i ord0) (n.getD i ord0)
theorem Stays0.refl (s : List Ord) : Stays0 s s := ⟨rfl, fun i _ => SameO.refl _⟩
theorem Stays0.trans {s n m : List Ord} (h : Stays0 s n) (k : Stays0 n m) : Stays0 s m := ⟨h.1.trans k.1, fun i hi => (h.2 i hi).trans (k.2 i (by have := h.1; omega))⟩
theorem stays_set {os : List Ord} {k : Nat} {o : Ord} (hk : k < os.length) (h : SameO (os.getD k ord0) o) : Stays0 os (os.set k o) := by
  refine ⟨by rw [List.length_set], fun i hi => ?_⟩
  have : (os.set k o).getD i ord0 = if k = i then o else os.getD i ord0 := by
    rw [List.getD_eq_getElem?_getD, List.getElem?_set]
    by_cases e : k = i
    · subst e
      rw [if_pos rfl, if_pos hi, if_pos rfl]; rfl
    · rw [if_neg e, if_neg e, List.getD_eq_getElem?_getD]
  rw [this]
  by_cases e : k = i
  · rw [if_pos e, ← e]; exact h
  · rw [if_neg e]; exact SameO.refl _
theorem fillAll_stays {s b : Sto} {l : List Tk} (h : GoodSt s) (hw : ∀ t ∈ l, WfE kTake t) (e : fillAll s l = .inl b) : Stays0 s.1 b.1 := by
  unfold fillAll at e
  generalize l.length = n at e
  have : ∀ (l : List Tk) (i : Nat) (a b : Sto), (∀ t ∈ l, WfE kTake t) → GoodSt a → walkL (X := Sto ⊕ Int) (fillK n) (fun a => .inl a) i l a = .inl b → Stays0 a.1 b.1 := by
    intro l
    induction l with
    | nil => intro i a b _ h e; cases e; exact Stays0.refl _
    | cons t l ih =>
      intro i a b hw h e
      rw [walkL] at e
      unfold fillK at e
      cases q : fillStep n i t a with
      | inl c =>
        rw [q] at e
        have ht := hw t List.mem_cons_self
        obtain ⟨k, r, hk, _, _, _, _, eb⟩ := step_inl h.fine ht q
        refine Stays0.trans ?_ (ih (i + 1) c b (fun x hx => hw x (List.mem_cons_of_mem _ hx)) (fill_good h ht q) e)
        rw [eb]
        exact stays_set (at_lt hk) ⟨rfl, rfl, rfl⟩
      | inr e' => rw [q] at e; cases e
  exact this l 0 s b hw h e
theorem apply_stay {s : Sto} {p : Prg} (h : GoodSt s) (hp : Few p) : (s.1.length ≤ (applyS s p).1.1.length ∧ (applyS s p).1.1.length ≤ s.1.length + 1) ∧ ∀ i, i < s.1.length → SameO (s.1.getD i ord0) ((applyS s p).1.1.getD i ord0) := by
  have base : ∀ n : List Ord, Stays0 s.1 n → (s.1.length ≤ n.length ∧ n.length ≤ s.1.length + 1) ∧ ∀ i, i < s.1.length → SameO (s.1.getD i ord0) (n.getD i ord0) := fun n q => ⟨by have := q.1; omega, q.2⟩
  unfold applyS
  rw [goodSt_to h]
  simp only [Bool.not_true, cond_false]
  cases hq : goodP 4 4 p with
  | false => exact base _ (Stays0.refl _)
  | true =>
    simp only [Bool.not_true, cond_false]
    cases h1 : p.1 == 1 with
    | true =>
      simp only [cond_true]
      unfold placeS
      cases atS s.1 p.2.1 with
      | some k => exact base _ (Stays0.refl _)
      | none =>
        simp only []
        split
        · exact base _ (Stays0.refl _)
        · refine ⟨by simp, fun i hi => ?_⟩
          have : (s.1 ++ [placed p]).getD i ord0 = s.1.getD i ord0 := by
            rw [List.getD_eq_getElem?_getD, List.getElem?_append_left hi, List.getD_eq_getElem?_getD]
          show SameO (s.1.getD i ord0) ((s.1 ++ [placed p]).getD i ord0)
          rw [this]; exact SameO.refl _
    | false =>
      simp only [cond_false]
      cases h5 : p.1 == 5 with
      | true =>
        simp only [cond_true]
        cases q : fillAll s p.2.2.2.2.1 with
        | inl b => exact base _ (fillAll_stays h (few_takes hp) q)
        | inr e => exact base _ (Stays0.refl _)
      | false =>
        simp only [cond_false]
        cases h6 : p.1 == 6 with
        | true => exact base _ (Stays0.refl _)
        | false =>
          simp only [cond_false]
          unfold changeS
          cases hk : atS s.1 p.2.1 with
          | none => exact base _ (Stays0.refl _)
          | some k =>
            simp only []
            rcases apply_cases (s.1.getD k ord0) p with ⟨_, q⟩ | ⟨_, _, _, q⟩
            · rw [show ((applyO (s.1.getD k ord0) p).2.1 != 0) = true by simpa using q]; exact base _ (Stays0.refl _)
            · have hz : ((applyO (s.1.getD k ord0) p).2.1 != 0) = false := by rcases q with ⟨_, q⟩ | ⟨_, q⟩ | ⟨_, q⟩ <;> rw [q] <;> rfl
              rw [hz]
              refine base _ (stays_set (at_lt hk) ?_)
              rcases q with ⟨_, q⟩ | ⟨_, q⟩ | ⟨_, q⟩ <;> rw [q] <;> exact ⟨rfl, rfl, rfl⟩
end Go.Proofs.Pure
