/- Orders: what is owed, what is named. -/
import Derived.Test.YtmhbfandkefnaaaSumRef
import Derived.Test.YtmhbfandkefnaaaSame
set_option linter.unusedVariables false
namespace Go.Proofs.Pure
open Go.Proofs.D Go.Proofs.F

abbrev Ord := Int × Int × List Ln × List Tk × List Tk × List Ln × Unit

def firstF (a : Int) : Nat → Ln → Unit → Unit ⊕ (Unit ⊕ Int) := fun _ x _ => bif x.1 == a then .inr (.inr x.2.1) else .inl ()
/-- The first line of the article, or nothing. -/
def firstOf (a : Int) (l : List Ln) : Int := match walkL (firstF a) (fun _ => .inl ()) 0 l () with | .inl _ => 0 | .inr n => n

theorem first_val (l : List Ln) (a : Int) (hl : l.length < 1000000) : order_first l a = some (firstOf a l) := by
  unfold order_first firstOf
  have := loop_walk (step := order_first.l1) l (fun i (_ : Unit) => (a, (l, ((l.length : Int), (i : Int))))) (firstF a) (fun _ => .inl ()) (fun _ _ => True) () (by omega) trivial (fun i x acc hx _ => by
    have hi := get_lt hx
    refine ⟨?_, fun _ _ => trivial⟩
    unfold order_first.l1 firstF
    simp only [dec_t (show (i : Int) < (l.length : Int) by omega), cond_true]
    rw [nthK_get hx]
    cases (x.1 == a) with
    | true => rfl
    | false => simp only [cond_false]; rw [succ_i64 (by omega)]) (fun acc _ => by
    unfold order_first.l1
    simp only [dec_f (show ¬ (l.length : Int) < (l.length : Int) by omega), cond_false])
  rw [show (((0 : Nat) : Int)) = 0 from rfl] at this
  rw [this, Option.bind_some]
  split <;> simp_all

theorem owed_val (x : Ord) (a : Int) (hl : x.2.2.2.2.2.1.length < 1000000) : order_Owed x a = some (firstOf a x.2.2.2.2.2.1) := by
  unfold order_Owed
  rw [first_val _ _ hl]; rfl

theorem refOwed_val (x : Ord) (a : Int) (hl : x.2.2.2.2.2.1.length < 1000000) : pledgeref22_Owed x a = some (firstOf a x.2.2.2.2.2.1) := by
  unfold pledgeref22_Owed firstOf
  generalize hL : x.2.2.2.2.2.1 = l at *
  have := loop_walk (step := pledgeref22_Owed.l1) l (fun i (_ : Unit) => ((a, ((), (i : Int))), (x, ()))) (firstF a) (fun _ => .inl ()) (fun _ _ => True) () (by omega) trivial (fun i y acc hx _ => by
    have hi := get_lt hx
    refine ⟨?_, fun _ _ => trivial⟩
    unfold pledgeref22_Owed.l1 firstF
    simp only [hL, dec_t (show (i : Int) < (l.length : Int) by omega), cond_true]
    rw [nthK_get hx, nthK_get hx]
    cases (y.1 == a) with
    | true => rfl
    | false => simp only [cond_false]; rw [succ_i64 (by omega)]) (fun acc _ => by
    unfold pledgeref22_Owed.l1
    simp only [hL, dec_f (show ¬ (l.length : Int) < (l.length : Int) by omega), cond_false])
  rw [show (((0 : Nat) : Int)) = 0 from rfl] at this
  rw [this, Option.bind_some]
  split <;> simp_all

def ofTake (a : Int) (t : Tk) : List Int := bif t.2.1 == a then [t.2.2.2.1] else []
def ofLine (a : Int) (t : Ln) : List Int := bif t.1 == a then [t.2.1] else []
def namedOf (a : Int) (t : List Tk) (l : List Ln) : List Int := t.flatMap (ofTake a) ++ l.flatMap (ofLine a)

theorem ofTake_len (a : Int) (t : Tk) : (ofTake a t).length ≤ 1 := by unfold ofTake; cases (t.2.1 == a) <;> simp
theorem ofLine_len (a : Int) (t : Ln) : (ofLine a t).length ≤ 1 := by unfold ofLine; cases (t.1 == a) <;> simp
theorem flat_len {α B : Type} {g : α → List B} (h : ∀ x, (g x).length ≤ 1) : ∀ l : List α, (l.flatMap g).length ≤ l.length
  | [] => by simp
  | x :: l => by
    have := h x; have := flat_len h l
    simp only [List.flatMap_cons, List.length_append, List.length_cons]; omega

theorem named_l1 (a : Int) (x : Ord) (t : List Tk) (ht : t.length < 1000000) : iterL order_named.l1 loopN ((a, ((), ((), ((), ((t.length : Int), 0))))), (x, ([], (t, ())))) = some ((a, ((), ())), (x, (t.flatMap (ofTake a), ()))) := by
  have := loop_walk (step := order_named.l1) t (fun i (acc : List Int) => ((a, ((), ((), ((), ((t.length : Int), (i : Int)))))), (x, (acc, (t, ()))))) (fun _ y acc => .inl (acc ++ ofTake a y)) (fun acc => ((a, ((), ())), (x, (acc, ())))) (fun i acc => acc.length ≤ i) [] (by omega) (by simp) (fun i y acc hx hI => by
    have hi := get_lt hx
    refine ⟨?_, fun _ h => by cases h; have := ofTake_len a y; simp only [List.length_append]; omega⟩
    unfold order_named.l1 ofTake
    simp only [dec_t (show (i : Int) < (t.length : Int) by omega), dec_t (show (0 : Int) ≤ (i : Int) by omega), Bool.and_true, cond_true]
    rw [chk_true rfl, nthK_get hx]
    cases (y.2.1 == a) with
    | true =>
      simp only [cond_true]
      rw [room_ok (by simp; omega), succ_i64 (by omega)]
    | false => simp only [cond_false, List.append_nil]; rw [succ_i64 (by omega)]) (fun acc _ => by
    unfold order_named.l1
    simp only [dec_f (show ¬ (t.length : Int) < (t.length : Int) by omega), cond_false])
  rw [show (((0 : Nat) : Int)) = 0 from rfl] at this
  rw [this, walk_gather, List.nil_append]

theorem named_l2 (a : Int) (acc0 : List Int) (t : List Ln) (h0 : acc0.length < 1000000) (ht : t.length < 1000000) : iterL order_named.l2 loopN ((a, ((), (t, ((t.length : Int), 0)))), (acc0, ())) = some ((), (acc0 ++ t.flatMap (ofLine a), ())) := by
  have := loop_walk (step := order_named.l2) t (fun i (acc : List Int) => ((a, ((), (t, ((t.length : Int), (i : Int))))), (acc, ()))) (fun _ y acc => .inl (acc ++ ofLine a y)) (fun acc => ((), (acc, ()))) (fun i acc => acc.length ≤ i + acc0.length) acc0 (by omega) (by simp) (fun i y acc hx hI => by
    have hi := get_lt hx
    refine ⟨?_, fun _ h => by cases h; have := ofLine_len a y; simp only [List.length_append]; omega⟩
    unfold order_named.l2 ofLine
    simp only [dec_t (show (i : Int) < (t.length : Int) by omega), cond_true]
    rw [nthK_get hx]
    cases (y.1 == a) with
    | true =>
      simp only [cond_true]
      rw [room_ok (by simp; omega), succ_i64 (by omega)]
    | false => simp only [cond_false, List.append_nil]; rw [succ_i64 (by omega)]) (fun acc _ => by
    unfold order_named.l2
    simp only [dec_f (show ¬ (t.length : Int) < (t.length : Int) by omega), cond_false])
  rw [show (((0 : Nat) : Int)) = 0 from rfl] at this
  rw [this, walk_gather]

theorem ref_named_l1 (a : Int) (l : List Ln) (t : List Tk) (ht : t.length < 1000000) : iterL pledgeref13_Named.l1 loopN ((t, (l, (a, ((), 0)))), ([], ())) = some ((l, (a, ())), (t.flatMap (ofTake a), ())) := by
  have := loop_walk (step := pledgeref13_Named.l1) t (fun i (acc : List Int) => ((t, (l, (a, ((), (i : Int))))), (acc, ()))) (fun _ y acc => .inl (acc ++ ofTake a y)) (fun acc => ((l, (a, ())), (acc, ()))) (fun i acc => acc.length ≤ i) [] (by omega) (by simp) (fun i y acc hx hI => by
    have hi := get_lt hx
    refine ⟨?_, fun _ h => by cases h; have := ofTake_len a y; simp only [List.length_append]; omega⟩
    unfold pledgeref13_Named.l1 ofTake
    simp only [dec_t (show (i : Int) < (t.length : Int) by omega), cond_true]
    rw [nthK_get hx, nthK_get hx]
    cases (y.2.1 == a) with
    | true =>
      simp only [cond_true]
      rw [room_ok (by simp; omega), succ_i64 (by omega)]
    | false => simp only [cond_false, List.append_nil]; rw [succ_i64 (by omega)]) (fun acc _ => by
    unfold pledgeref13_Named.l1
    simp only [dec_f (show ¬ (t.length : Int) < (t.length : Int) by omega), cond_false])
  rw [show (((0 : Nat) : Int)) = 0 from rfl] at this
  rw [this, walk_gather, List.nil_append]

theorem ref_named_l2 (a : Int) (acc0 : List Int) (t : List Ln) (h0 : acc0.length < 1000000) (ht : t.length < 1000000) : iterL pledgeref13_Named.l2 loopN ((t, (a, ((), 0))), (acc0, ())) = some ((), (acc0 ++ t.flatMap (ofLine a), ())) := by
  have := loop_walk (step := pledgeref13_Named.l2) t (fun i (acc : List Int) => ((t, (a, ((), (i : Int)))), (acc, ()))) (fun _ y acc => .inl (acc ++ ofLine a y)) (fun acc => ((), (acc, ()))) (fun i acc => acc.length ≤ i + acc0.length) acc0 (by omega) (by simp) (fun i y acc hx hI => by
    have hi := get_lt hx
    refine ⟨?_, fun _ h => by cases h; have := ofLine_len a y; simp only [List.length_append]; omega⟩
    unfold pledgeref13_Named.l2 ofLine
    simp only [dec_t (show (i : Int) < (t.length : Int) by omega), cond_true]
    rw [nthK_get hx, nthK_get hx]
    cases (y.1 == a) with
    | true =>
      simp only [cond_true]
      rw [room_ok (by simp; omega), succ_i64 (by omega)]
    | false => simp only [cond_false, List.append_nil]; rw [succ_i64 (by omega)]) (fun acc _ => by
    unfold pledgeref13_Named.l2
    simp only [dec_f (show ¬ (t.length : Int) < (t.length : Int) by omega), cond_false])
  rw [show (((0 : Nat) : Int)) = 0 from rfl] at this
  rw [this, walk_gather]

theorem wfTake {t : Tk} (h : WfE kTake t) : -9223372036854775808 ≤ t.2.2.2.1 ∧ t.2.2.2.1 < 9223372036854775808 := wf_i64 h.2.2.2.1
theorem wfLine {t : Ln} (h : WfE kLine t) : -9223372036854775808 ≤ t.2.1 ∧ t.2.1 < 9223372036854775808 := wf_i64 h.2.1

theorem named_fit (a : Int) (t : List Tk) (l : List Ln) (ht : ∀ x ∈ t, WfE kTake x) (hl : ∀ x ∈ l, WfE kLine x) : ∀ n ∈ namedOf a t l, -9223372036854775808 ≤ n ∧ n < 9223372036854775808 := by
  intro n hn
  unfold namedOf at hn
  rcases List.mem_append.mp hn with h | h
  · obtain ⟨x, hx, h2⟩ := List.mem_flatMap.mp h
    unfold ofTake at h2
    cases e : (x.2.1 == a) <;> rw [e] at h2
    · exact absurd h2 List.not_mem_nil
    · rw [List.mem_singleton.mp h2]; exact wfTake (ht x hx)
  · obtain ⟨x, hx, h2⟩ := List.mem_flatMap.mp h
    unfold ofLine at h2
    cases e : (x.1 == a) <;> rw [e] at h2
    · exact absurd h2 List.not_mem_nil
    · rw [List.mem_singleton.mp h2]; exact wfLine (hl x hx)

theorem named_len (a : Int) (t : List Tk) (l : List Ln) : (namedOf a t l).length ≤ t.length + l.length := by
  unfold namedOf
  have := flat_len (ofTake_len a) t
  have := flat_len (ofLine_len a) l
  simp only [List.length_append]; omega

theorem sumOf_eta (l : List Int) : some ((sumOf l).1, ((sumOf l).2.1, ())) = some (sumOf l) := rfl

theorem refNamed_val (a : Int) (t : List Tk) (l : List Ln) (h1 : t.length < 400000) (h2 : l.length < 400000) (ht : ∀ x ∈ t, WfE kTake x) (hl : ∀ x ∈ l, WfE kLine x) : pledgeref13_Named t l a = some (sumOf (namedOf a t l)) := by
  unfold pledgeref13_Named
  have := flat_len (ofTake_len a) t
  rw [ref_named_l1 a l t (by omega), Option.bind_some]
  simp only []
  rw [ref_named_l2 a _ l (by omega) (by omega), Option.bind_some]
  have hn := named_len a t l
  rw [show t.flatMap (ofTake a) ++ l.flatMap (ofLine a) = namedOf a t l from rfl, refsum_all _ (by omega) (named_fit a t l ht hl)]
  rfl

theorem named_val (x : Ord) (a : Int) (h1 : x.2.2.2.1.length < 200000) (h2 : x.2.2.2.2.1.length < 200000) (h3 : x.2.2.2.2.2.1.length < 200000) (g1 : ∀ y ∈ x.2.2.2.1, WfE kTake y) (g2 : ∀ y ∈ x.2.2.2.2.1, WfE kTake y) (g3 : ∀ y ∈ x.2.2.2.2.2.1, WfE kLine y) :
    order_named x a = some (sumOf (namedOf a (x.2.2.2.1 ++ x.2.2.2.2.1) x.2.2.2.2.2.1)) := by
  obtain ⟨o1, o2, o3, held, sent, owed, u⟩ := x
  simp only at h1 h2 h3 g1 g2 g3 ⊢
  unfold order_named
  simp only [Int.toNat_natCast, List.take_length, List.drop_zero]
  have hn := named_len a (held ++ sent) owed
  simp only [List.length_append] at hn
  have hf := flat_len (ofTake_len a) (held ++ sent)
  simp only [List.length_append] at hf
  rw [chk_true (by simp), chk_true (by simp), room_ok (by omega), named_l1 a _ (held ++ sent) (by simp only [List.length_append]; omega), Option.bind_some]
  simp only []
  rw [named_l2 a _ owed (by omega) (by omega), Option.bind_some, show (held ++ sent).flatMap (ofTake a) ++ owed.flatMap (ofLine a) = namedOf a (held ++ sent) owed from rfl]
  rw [sum_all _ (by omega) (named_fit a _ _ (fun y hy => (List.mem_append.mp hy).elim (g1 y) (g2 y)) g3)]
  rfl

theorem refnamed_val (x : Ord) (a : Int) (h1 : x.2.2.2.1.length < 200000) (h2 : x.2.2.2.2.1.length < 200000) (h3 : x.2.2.2.2.2.1.length < 200000) (g1 : ∀ y ∈ x.2.2.2.1, WfE kTake y) (g2 : ∀ y ∈ x.2.2.2.2.1, WfE kTake y) (g3 : ∀ y ∈ x.2.2.2.2.2.1, WfE kLine y) :
    pledgeref22_named x a = some (sumOf (namedOf a (x.2.2.2.1 ++ x.2.2.2.2.1) x.2.2.2.2.2.1)) := by
  unfold pledgeref22_named
  rw [room_ok (by omega), room_ok (by omega), refNamed_val a _ _ (by simp only [List.length_append]; omega) (by omega) (fun y hy => (List.mem_append.mp hy).elim (g1 y) (g2 y)) g3]
  rfl

def sameO (x y : Ord) : Bool := (x.1 == y.1) && ((x.2.1 == y.2.1) && (sameL x.2.2.1 y.2.2.1 && (sameT x.2.2.2.1 y.2.2.2.1 && (sameT x.2.2.2.2.1 y.2.2.2.2.1 && sameL x.2.2.2.2.2.1 y.2.2.2.2.2.1))))
theorem sameO_refl (x : Ord) : sameO x x = true := by unfold sameO; simp [sameL_refl, sameT_refl]

theorem same_val (x y : Ord) (h0 : x.2.2.1.length < 1000) (h1 : x.2.2.2.1.length < 1000) (h2 : x.2.2.2.2.1.length < 1000) (h3 : x.2.2.2.2.2.1.length < 1000) : order_Same x y = some (sameO x y) := by
  unfold order_Same sameO
  rw [equal_val _ _ h0, equalT_val _ _ h1, equalT_val _ _ h2, equal_val _ _ h3]
  cases (x.1 == y.1) <;> cases (x.2.1 == y.2.1) <;> cases sameL x.2.2.1 y.2.2.1 <;> cases sameT x.2.2.2.1 y.2.2.2.1 <;> cases sameT x.2.2.2.2.1 y.2.2.2.2.1 <;> rfl
theorem refsame_val (x y : Ord) (h0 : x.2.2.1.length < 1000) (h1 : x.2.2.2.1.length < 1000) (h2 : x.2.2.2.2.1.length < 1000) (h3 : x.2.2.2.2.2.1.length < 1000) : pledgeref22_Same x y = some (sameO x y) := by
  unfold pledgeref22_Same sameO
  rw [ref_equal_val _ _ h0, ref_equalT_val _ _ h1, ref_equalT_val _ _ h2, ref_equal_val _ _ h3]
  cases (x.1 == y.1) <;> cases (x.2.1 == y.2.1) <;> cases sameL x.2.2.1 y.2.2.1 <;> cases sameT x.2.2.2.1 y.2.2.2.1 <;> cases sameT x.2.2.2.2.1 y.2.2.2.2.1 <;> rfl

theorem works22 : pledgelaw22_works = some true := by kernel_rfl

theorem few_val (x : Ord) : pledgelaw22_Few x = some 0 ∨ (pledgelaw22_Few x = some 1 ∧ x.2.2.1.length ≤ 20 ∧ x.2.2.2.1.length ≤ 30 ∧ x.2.2.2.2.1.length ≤ 30 ∧ x.2.2.2.2.2.1.length ≤ 20) := by
  unfold pledgelaw22_Few pledgelaw22_isFew
  by_cases h1 : (x.2.2.1.length : Int) ≤ 20
  · by_cases h2 : (x.2.2.2.1.length : Int) ≤ 30
    · by_cases h3 : (x.2.2.2.2.1.length : Int) ≤ 30
      · by_cases h4 : (x.2.2.2.2.2.1.length : Int) ≤ 20
        · rw [dec_t h1, dec_t h2, dec_t h3, dec_t h4]
          exact .inr ⟨rfl, by omega, by omega, by omega, by omega⟩
        · rw [dec_t h1, dec_t h2, dec_t h3, dec_f h4]; exact .inl rfl
      · rw [dec_t h1, dec_t h2, dec_f h3]; exact .inl rfl
    · rw [dec_t h1, dec_f h2]; exact .inl rfl
  · rw [dec_f h1]; exact .inl rfl

theorem copy_val (x : Ord) (h0 : x.2.2.1.length < 1000) (h1 : x.2.2.2.1.length < 1000) (h2 : x.2.2.2.2.1.length < 1000) (h3 : x.2.2.2.2.2.1.length < 1000) :
    order_Copy x = some ((x.1, (x.2.1, ((), ((), ((), ((), x.2.2.2.2.2.2)))))), (x.2.2.1, (x.2.2.2.1, (x.2.2.2.2.1, (x.2.2.2.2.2.1, ()))))) := by
  unfold order_Copy slices_Clone_api_Line_api_Line slices_Clone_api_Take_api_Take
  rw [room_ok (by omega), room_ok (by omega), room_ok (by omega), room_ok (by omega)]
  rfl

end Go.Proofs.Pure
