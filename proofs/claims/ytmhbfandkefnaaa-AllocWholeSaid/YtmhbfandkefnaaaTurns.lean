/- One take more, put at its place among takes in order. -/
import Derived.Test.YtmhbfandkefnaaaOrderGood
import Derived.Test.YtmhbfandkefnaaaOrder
import Derived.Test.YtmhbfandkefnaaaOrdGood
import Derived.Test.YtmhbfandkefnaaaRefGood
set_option linter.unusedVariables false
namespace Go.Proofs.Pure
open Go.Proofs.D Go.Proofs.F

def key (x : Tk) : Int := 4 * x.2.2.1 + x.2.1
structure Valid (id : Int) (x : Tk) : Prop where
  id : x.1 = id
  sku : 0 ≤ x.2.1 ∧ x.2.1 < 4
  ware : 0 ≤ x.2.2.1 ∧ x.2.2.1 < 4
  qty : 1 ≤ x.2.2.2.1 ∧ x.2.2.2.1 < 9223372036854775808

/-- In order, above lo. -/
def okFrom (id : Int) : Int → List Tk → Prop
  | _, [] => True
  | lo, x :: l => Valid id x ∧ lo < key x ∧ okFrom id (key x) l

theorem key_lt {id jd : Int} {x y : Tk} (hx : Valid id x) (hy : Valid jd y) : tkPrev x y = decide (key x < key y) := boolEq (by
  have h1 := hx.sku; have h2 := hy.sku; have h3 := hx.ware; have h4 := hy.ware
  unfold tkPrev key
  simp only [Bool.and_eq_true, Bool.not_eq_true', decide_eq_false_iff_not, Bool.and_eq_false_iff, beq_eq_false_iff_ne, ne_eq, decide_eq_true_eq]
  omega)

theorem base_valid {id : Int} {x : Tk} (hw : WfE kTake x) : tkBase 4 4 id x = true ↔ Valid id x := by
  have h1 := wf_u8 hw.2.1; have h2 := wf_u8 hw.2.2.1; have h3 := wf_i64 hw.2.2.2.1
  unfold tkBase
  simp only [Bool.and_eq_true, Bool.not_eq_true', decide_eq_false_iff_not, bne_eq_false_iff_eq]
  constructor
  · rintro ⟨a, b, c, d⟩; exact ⟨a, by omega, by omega, by omega⟩
  · rintro ⟨a, b, c, d⟩; exact ⟨a, by omega, by omega, by omega⟩

def keyB (l : List Tk) : Nat → Int | 0 => -1 | j + 1 => key (at1 l j)

theorem ok_of_takes {id : Int} {l : List Tk} (hw : ∀ x ∈ l, WfE kTake x) (h : takesO id l = true) : ∀ (k j : Nat), j + k = l.length → okFrom id (keyB l j) (l.drop j)
  | 0, j, hj => by rw [List.drop_eq_nil_iff.2 (by omega)]; trivial
  | k + 1, j, hj => by
    have hlt : j < l.length := by omega
    have hg := at1_get hlt
    have hd : l.drop j = at1 l j :: l.drop (j + 1) := by
      rw [List.drop_eq_getElem_cons hlt]
      have e := List.getElem?_eq_getElem hlt
      rw [hg] at e; rw [Option.some.inj e]
    have hq := (allFrom_iff.1 h) j (by omega) (by omega)
    unfold takeQ at hq
    simp only [Bool.and_eq_true, Bool.or_eq_true] at hq
    have hv := (base_valid (hw _ (get_mem hg))).1 hq.1
    rw [hd]
    refine ⟨hv, ?_, ok_of_takes hw h k (j + 1) (by omega)⟩
    cases j with
    | zero => have := hv.sku; have := hv.ware; show -1 < key (at1 l 0); unfold key; omega
    | succ j =>
      have hg' := at1_get (by omega : j < l.length)
      have hq' := (allFrom_iff.1 h) j (by omega) (by omega)
      unfold takeQ at hq'
      simp only [Bool.and_eq_true] at hq'
      have hv' := (base_valid (hw _ (get_mem hg'))).1 hq'.1
      rcases hq.2 with q | q
      · cases q
      · rw [Nat.add_sub_cancel, key_lt hv' hv, decide_eq_true_eq] at q; exact q

theorem ok_of {id : Int} {l : List Tk} (hw : ∀ x ∈ l, WfE kTake x) (h : takesO id l = true) : okFrom id (-1) l := by
  have := ok_of_takes hw h l.length 0 (by omega)
  simpa [keyB] using this

theorem okFrom.mem {id lo : Int} : ∀ {l : List Tk}, okFrom id lo l → ∀ x ∈ l, Valid id x ∧ lo < key x
  | [], _, x, hx => by cases hx
  | y :: l, ⟨h1, h2, h3⟩, x, hx => by
    rcases List.mem_cons.1 hx with e | hx
    · subst e; exact ⟨h1, h2⟩
    · obtain ⟨a, b⟩ := okFrom.mem h3 x hx; exact ⟨a, by omega⟩

theorem okFrom.lo {id lo lo' : Int} (h : lo' ≤ lo) : ∀ {l : List Tk}, okFrom id lo l → okFrom id lo' l
  | [], _ => trivial
  | x :: l, ⟨h1, h2, h3⟩ => ⟨h1, by omega, h3⟩

theorem takes_of_ok {id : Int} : ∀ {l : List Tk}, okFrom id (-1) l → takesO id l = true := by
  intro l h
  have go : ∀ (k j : Nat) (lo : Int), j + k = l.length → okFrom id lo (l.drop j) → (j = 0 ∨ ∃ y, at1 l (j - 1) = y ∧ Valid id y ∧ key y ≤ lo) → ∀ i, j ≤ i → i < l.length → takeQ 4 4 id l i = true := by
    intro k
    induction k with
    | zero => intro j lo hj _ _ i h1 h2; omega
    | succ k ih =>
      intro j lo hj hok hp i h1 h2
      have hlt : j < l.length := by omega
      have hg := at1_get hlt
      have hd : l.drop j = at1 l j :: l.drop (j + 1) := by
        rw [List.drop_eq_getElem_cons hlt]
        have e := List.getElem?_eq_getElem hlt
        rw [hg] at e; rw [Option.some.inj e]
      rw [hd] at hok
      obtain ⟨v1, v2, v3⟩ := hok
      by_cases e : i = j
      · subst e
        unfold takeQ
        have hb : tkBase 4 4 id (at1 l i) = true := by
          unfold tkBase
          simp only [Bool.and_eq_true, Bool.not_eq_true', decide_eq_false_iff_not, bne_eq_false_iff_eq]
          have := v1.id; have := v1.sku; have := v1.ware; have := v1.qty
          exact ⟨v1.id, by omega, by omega, by omega⟩
        rw [hb, Bool.true_and]
        rcases hp with e | ⟨y, e1, e2, e3⟩
        · subst e; rfl
        · cases i with
          | zero => rfl
          | succ i => rw [e1, key_lt e2 v1, dec_t (by omega), Bool.or_true]
      · exact ih (j + 1) _ (by omega) v3 (.inr ⟨_, rfl, v1, Int.le_refl _⟩) i (by omega) h2
  unfold takesO
  rw [allFrom_iff]
  exact fun i h1 h2 => go l.length 0 (-1) (by omega) (by simpa using h) (.inl rfl) i (by omega) (by omega)

/-! ### Putting one more -/
def merge (x t : Tk) : Tk := (x.1, (x.2.1, (x.2.2.1, (x.2.2.2.1 + t.2.2.2.1, x.2.2.2.2))))
def ins (t : Tk) : List Tk → List Tk
  | [] => [t]
  | x :: l => if key x < key t then x :: ins t l else if key x = key t then merge x t :: l else t :: x :: l
def posOf (t : Tk) : List Tk → Nat
  | [] => 0
  | x :: l => if key x < key t then posOf t l + 1 else 0
theorem posOf_le (t : Tk) : ∀ l, posOf t l ≤ l.length
  | [] => Nat.le_refl _
  | x :: l => by unfold posOf; split; have := posOf_le t l; simp; omega; simp

theorem ins_pos (t : Tk) : ∀ l : List Tk, ins t l = match l[posOf t l]? with
    | none => l.take (posOf t l) ++ [t]
    | some x => if key x = key t then l.set (posOf t l) (merge x t) else l.take (posOf t l) ++ t :: l.drop (posOf t l)
  | [] => rfl
  | x :: l => by
    unfold ins posOf
    by_cases h : key x < key t
    · rw [if_pos h, if_pos h, ins_pos t l]
      simp only [List.getElem?_cons_succ, List.take_succ_cons, List.drop_succ_cons, List.set_cons_succ, List.cons_append]
      split
      · rfl
      · split <;> rfl
    · rw [if_neg h, if_neg h]
      simp only [List.getElem?_cons_zero, List.take_zero, List.drop_zero, List.nil_append, List.set_cons_zero]

theorem pos_not (t : Tk) : ∀ {l : List Tk} {x : Tk}, l[posOf t l]? = some x → ¬ key x < key t
  | [], _, h => by cases h
  | y :: l, x, h => by
    unfold posOf at h
    by_cases q : key y < key t
    · rw [if_pos q] at h; exact pos_not t (by simpa using h)
    · rw [if_neg q] at h; simp only [List.getElem?_cons_zero, Option.some.injEq] at h; rw [← h]; exact q

theorem with_loop (t : Tk) (l : List Tk) (hl : l.length < 1000) (ht : ∃ id, Valid id t) (hv : ∀ x ∈ l, ∃ id, Valid id x) : ∀ (k j : Nat), j + k = l.length →
    iterL order_with.l1 (k + 1) ((l, ((), (j : Int))), (t, ())) = some ((l, ((), ((j + posOf t (l.drop j) : Nat) : Int))), (t, ()))
  | 0, j, hj => by
    rw [List.drop_eq_nil_iff.2 (by omega)]
    refine iterL_done ?_
    unfold order_with.l1
    simp only [dec_f (show ¬ (j : Int) < (l.length : Int) by omega), cond_false]
    rfl
  | k + 1, j, hj => by
    have hlt : j < l.length := by omega
    have hg := at1_get hlt
    have hd : l.drop j = at1 l j :: l.drop (j + 1) := by
      rw [List.drop_eq_getElem_cons hlt]
      have e := List.getElem?_eq_getElem hlt
      rw [hg] at e; rw [Option.some.inj e]
    obtain ⟨i1, v1⟩ := ht
    obtain ⟨i2, v2⟩ := hv _ (get_mem hg)
    rw [hd]
    unfold posOf
    by_cases q : key (at1 l j) < key t
    · rw [if_pos q]
      have hs : order_with.l1 ((l, ((), (j : Int))), (t, ())) = some (.inl ((l, ((), ((j + 1 : Nat) : Int))), (t, ()))) := by
        unfold order_with.l1
        simp only [dec_t (show (j : Int) < (l.length : Int) by omega), cond_true]
        rw [nthK_get hg, ahead_val, Option.bind_some, key_lt v2 v1, dec_t q, succ_i64 (by omega)]
        rfl
      rw [iterL_next hs, with_loop t l hl ⟨i1, v1⟩ hv k (j + 1) (by omega)]
      rw [show j + 1 + posOf t (l.drop (j + 1)) = j + (posOf t (l.drop (j + 1)) + 1) by omega]
    · rw [if_neg q]
      refine iterL_done ?_
      unfold order_with.l1
      simp only [dec_t (show (j : Int) < (l.length : Int) by omega), cond_true]
      rw [nthK_get hg, ahead_val, Option.bind_some, key_lt v2 v1, dec_f q]
      rfl

theorem with_val (t : Tk) (l : List Tk) (hl : l.length < 1000) (ht : ∃ id, Valid id t) (hv : ∀ x ∈ l, ∃ id, Valid id x) (hf : ∀ x ∈ l, key x = key t → x.2.2.2.1 + t.2.2.2.1 < 9223372036854775808) : order_with l t = some (ins t l) := by
  unfold order_with
  have run := iterL_mono (with_loop t l hl ht hv l.length 0 (by omega)) (m := loopN) (by rw [loopN_eq]; omega)
  rw [show (((0 : Nat) : Int)) = 0 from rfl, List.drop_zero, Nat.zero_add] at run
  rw [run, Option.bind_some]
  simp only []
  have hp := posOf_le t l
  obtain ⟨i1, v1⟩ := ht
  have tail : (chk (decide (0 ≤ (posOf t l : Int)) && decide ((posOf t l : Int) ≤ (l.length : Int))) (chk ((posOf t l : Int) == (posOf t l : Int)) (room (((l.take ((posOf t l : Int)).toNat).drop 0).length + [t].length) (chk (decide (0 ≤ (posOf t l : Int)) && decide ((posOf t l : Int) ≤ (l.length : Int))) (room ((((l.take ((posOf t l : Int)).toNat).drop 0) ++ [t]).length + ((l.take l.length).drop ((posOf t l : Int)).toNat).length) (some ((((l.take ((posOf t l : Int)).toNat).drop 0) ++ [t]) ++ ((l.take l.length).drop ((posOf t l : Int)).toNat))))))) : Option (List Tk)) = some (l.take (posOf t l) ++ t :: l.drop (posOf t l)) := by
    have c1 : (decide (0 ≤ (posOf t l : Int)) && decide ((posOf t l : Int) ≤ (l.length : Int))) = true := by rw [dec_t (by omega), dec_t (by omega)]; rfl
    rw [chk_true c1, chk_true (by simp), room_ok (by simp; omega), chk_true c1, room_ok (by simp; omega)]
    simp only [Int.toNat_natCast, List.drop_zero, List.take_length, List.append_assoc, List.singleton_append]
  cases h : l[posOf t l]? with
  | none =>
    have hge : l.length ≤ posOf t l := List.getElem?_eq_none_iff.1 h
    rw [dec_f (by omega : ¬ (posOf t l : Int) < (l.length : Int))]
    simp only [cond_false]
    refine tail.trans ?_
    rw [ins_pos, h, List.drop_eq_nil_iff.2 hge]
  | some x =>
    have hlt := get_lt h
    obtain ⟨i2, v2⟩ := hv x (get_mem h)
    have hn := pos_not t h
    rw [dec_t (by omega : (posOf t l : Int) < (l.length : Int))]
    simp only [cond_true]
    rw [nthK_get h, ahead_val, Option.bind_some, key_lt v1 v2, ins_pos, h]
    simp only []
    by_cases e : key x = key t
    · rw [dec_f (by omega), if_pos e]
      unfold slices_Clone_api_Take_api_Take
      rw [room_ok (by omega)]
      simp only [Bool.not_false, cond_true, Option.bind_some]
      have c1 : (decide (0 ≤ (posOf t l : Int)) && decide ((posOf t l : Int) < (l.length : Int))) = true := by rw [dec_t (by omega), dec_t (by omega)]; rfl
      rw [chk_true c1, nthK_get h, chk_true c1]
      show nthN l (posOf t l) _ = _
      rw [nthN_get h]
      have hq1 := v1.qty; have hq2 := v2.qty
      have hs := hf x (get_mem h) e
      rw [wrap_i64 (by omega) (by omega)]
      rfl
    · rw [dec_t (by omega), if_neg e]
      simp only [Bool.not_true, cond_false]
      exact tail

theorem ins_len (t : Tk) : ∀ l : List Tk, (ins t l).length ≤ l.length + 1
  | [] => by simp [ins]
  | x :: l => by
    unfold ins
    split
    · have := ins_len t l; simp; omega
    · split <;> simp

/-! ### The document's way -/
theorem sumOf_fit {l : List Int} (h1 : -9223372036854775808 ≤ total l) (h2 : total l < 9223372036854775808) : sumOf l = (total l, (true, ())) := by
  unfold sumOf fitsI
  rw [dec_t h1, dec_t h2]; rfl
theorem sumOf_two {a b : Int} (ha : 1 ≤ a) (hb : 1 ≤ b) (h : a + b < 9223372036854775808) : sumOf [a, b] = (a + b, (true, ())) := by
  have e : total [a, b] = a + b := by simp [total]
  rw [sumOf_fit (by rw [e]; omega) (by rw [e]; exact h), e]

abbrev WAcc := Bool × List Tk
def wF (t : Tk) : Nat → Tk → WAcc → WAcc ⊕ ((Unit × Unit × Bool) × Tk × List Tk × Unit) := fun _ x a =>
  let b : WAcc := bif !a.1 && decide (key x > key t) then (true, a.2 ++ [t]) else a
  bif decide (key x = key t) then .inl (true, b.2 ++ [merge x t]) else .inl (b.1, b.2 ++ [x])
def wEnd (t : Tk) : WAcc → (Unit × Unit × Bool) × Tk × List Tk × Unit := fun a => (((), ((), a.1)), (t, (a.2, ())))

theorem walk_done (t : Tk) {id : Int} : ∀ (l : List Tk) (i : Nat) (out : List Tk), okFrom id (key t) l → walkL (wF t) (wEnd t) i l (true, out) = wEnd t (true, out ++ l)
  | [], i, out, _ => by simp [walkL]
  | x :: l, i, out, ⟨h1, h2, h3⟩ => by
    have e : wF t i x (true, out) = .inl (true, out ++ [x]) := by
      unfold wF
      simp only [Bool.not_true, Bool.false_and, cond_false]
      rw [dec_f (by omega)]; rfl
    simp only [walkL, e]
    rw [walk_done t l (i + 1) (out ++ [x]) (h3.lo (by omega)), List.append_assoc]; rfl

theorem walk_with (t : Tk) {id : Int} : ∀ (l : List Tk) (i : Nat) (lo : Int) (out : List Tk), okFrom id lo l → ∃ d o, walkL (wF t) (wEnd t) i l (false, out) = wEnd t (d, o) ∧ (bif !d then o ++ [t] else o) = out ++ ins t l
  | [], i, lo, out, _ => ⟨false, out, rfl, rfl⟩
  | x :: l, i, lo, out, ⟨h1, h2, h3⟩ => by
    unfold ins
    by_cases q : key x < key t
    · have e : wF t i x (false, out) = .inl (false, out ++ [x]) := by
        unfold wF
        rw [dec_f (by omega : ¬ key x > key t), dec_f (by omega : ¬ key x = key t)]; rfl
      obtain ⟨d, o, g1, g2⟩ := walk_with t l (i + 1) (key x) (out ++ [x]) h3
      refine ⟨d, o, by simp only [walkL, e]; exact g1, ?_⟩
      rw [if_pos q, g2, List.append_assoc]; rfl
    · rw [if_neg q]
      by_cases r : key x = key t
      · have e : wF t i x (false, out) = .inl (true, out ++ [merge x t]) := by
          unfold wF
          rw [dec_f (by omega : ¬ key x > key t), dec_t r]; rfl
        refine ⟨true, out ++ [merge x t] ++ l, by simp only [walkL, e]; exact walk_done t l (i + 1) _ (h3.lo (by omega)), ?_⟩
        rw [if_pos r]; simp
      · have e : wF t i x (false, out) = .inl (true, out ++ [t] ++ [x]) := by
          unfold wF
          rw [dec_t (by omega : key x > key t), dec_f r]; rfl
        refine ⟨true, out ++ [t] ++ [x] ++ l, by simp only [walkL, e]; exact walk_done t l (i + 1) _ (h3.lo (by omega)), ?_⟩
        rw [if_neg r]; simp

theorem key_gt {id jd : Int} {x t : Tk} (hx : Valid id x) (ht : Valid jd t) : ((x.2.2.1 > t.2.2.1) ∨ (x.2.2.1 = t.2.2.1 ∧ x.2.1 > t.2.1)) ↔ key x > key t := by
  have h1 := hx.sku; have h2 := ht.sku
  unfold key; omega
theorem key_eq {id jd : Int} {x t : Tk} (hx : Valid id x) (ht : Valid jd t) : (x.2.2.1 = t.2.2.1 ∧ x.2.1 = t.2.1) ↔ key x = key t := by
  have h1 := hx.sku; have h2 := ht.sku
  unfold key; omega

theorem With_val (t : Tk) (l : List Tk) {id lo : Int} (hl : l.length < 1000) (ht : ∃ jd, Valid jd t) (hok : okFrom id lo l) (hf : ∀ x ∈ l, key x = key t → x.2.2.2.1 + t.2.2.2.1 < 9223372036854775808) : pledgeref22_With l t = some (ins t l) := by
  unfold pledgeref22_With
  obtain ⟨jd, v1⟩ := ht
  have run := loop_walk (step := pledgeref22_With.l1) l (fun i (a : WAcc) => ((l, ((), ((), (a.1, (i : Int))))), (t, (a.2, ())))) (wF t) (wEnd t) (fun i a => a.2.length ≤ 2 * i) (false, []) (by omega) (by simp) (fun i x a hx hI => by
    obtain ⟨d, out⟩ := a
    have hi := get_lt hx
    obtain ⟨v2, -⟩ := hok.mem x (get_mem hx)
    have hk := key_gt v2 v1
    have he := key_eq v2 v1
    simp only at hI
    refine ⟨?_, fun b h => ?_⟩
    · unfold pledgeref22_With.l1 wF
      simp only [dec_t (show (i : Int) < (l.length : Int) by omega), cond_true]
      rw [nthK_get hx]
      have w3 := succ_i64 (show i < 9223372036854775807 by omega)
      have first : (bif !d then bif decide (x.2.2.1 > t.2.2.1) then room (out.length + [t].length) (some (((l, ((), ((), (true, ((i : Int), ()))))), (t, (out ++ [t], (x, ())))))) else bif (x.2.2.1 : Int) == t.2.2.1 then bif decide (x.2.1 > t.2.1) then room (out.length + [t].length) (some (((l, ((), ((), (true, ((i : Int), ()))))), (t, (out ++ [t], (x, ())))))) else some (((l, ((), ((), (d, ((i : Int), ()))))), (t, (out, (x, ()))))) else some (((l, ((), ((), (d, ((i : Int), ()))))), (t, (out, (x, ()))))) else some (((l, ((), ((), (d, ((i : Int), ()))))), (t, (out, (x, ()))))) : Option ((List Tk × Unit × Unit × Bool × Int × Unit) × Tk × List Tk × Tk × Unit)) =
          some ((l, ((), ((), ((bif !d && decide (key x > key t) then (true, out ++ [t]) else (d, out) : WAcc).1, ((i : Int), ()))))), (t, ((bif !d && decide (key x > key t) then (true, out ++ [t]) else (d, out) : WAcc).2, (x, ())))) := by
        rw [room_ok (by simp; omega)]
        cases d with
        | true => rfl
        | false =>
          by_cases q1 : x.2.2.1 > t.2.2.1
          · rw [dec_t q1, dec_t (hk.1 (.inl q1))]; rfl
          · by_cases q2 : x.2.2.1 = t.2.2.1
            · by_cases q3 : x.2.1 > t.2.1
              · rw [dec_f q1, dec_t q3, dec_t (hk.1 (.inr ⟨q2, q3⟩)), show (x.2.2.1 == t.2.2.1) = true by rw [beq_iff_eq]; exact q2]; rfl
              · rw [dec_f q1, dec_f q3, dec_f (p := key x > key t) (fun h => by rcases hk.2 h with h | h; exact q1 h; exact q3 h.2), show (x.2.2.1 == t.2.2.1) = true by rw [beq_iff_eq]; exact q2]; rfl
            · rw [dec_f q1, dec_f (p := key x > key t) (fun h => by rcases hk.2 h with h | h; exact q1 h; exact q2 h.1), show (x.2.2.1 == t.2.2.1) = false by rw [beq_eq_false_iff_ne]; exact q2]; rfl
      rw [first, Option.bind_some]
      generalize hb : (bif !d && decide (key x > key t) then (true, out ++ [t]) else (d, out) : WAcc) = b
      have hbl : b.2.length ≤ 2 * i + 1 := by rw [← hb]; cases (!d && decide (key x > key t)) <;> simp <;> omega
      simp only []
      have hq1 := v1.qty; have hq2 := v2.qty
      by_cases e : key x = key t
      · have hs := hf x (get_mem hx) e
        have hadd : pledgeref01_Add x.2.2.2.1 t.2.2.2.1 = some (x.2.2.2.1 + t.2.2.2.1, (true, ())) := by
          unfold pledgeref01_Add
          rw [refsum_all _ (by simp) (fun n hn => by simp only [List.mem_cons, List.not_mem_nil, or_false] at hn; rcases hn with rfl | rfl <;> omega), sumOf_two hq2.1 hq1.1 hs]; rfl
        obtain ⟨e1, e2⟩ := he.2 e
        rw [dec_t e, show (x.2.2.1 == t.2.2.1) = true by rw [beq_iff_eq]; exact e1, show (x.2.1 == t.2.1) = true by rw [beq_iff_eq]; exact e2]
        simp only [cond_true]
        rw [hadd, Option.bind_some, room_ok (by simp; omega), w3]
        rfl
      · rw [dec_f e]
        by_cases e1 : x.2.2.1 = t.2.2.1
        · have e2 : ¬ x.2.1 = t.2.1 := fun h => e (he.1 ⟨e1, h⟩)
          rw [show (x.2.2.1 == t.2.2.1) = true by rw [beq_iff_eq]; exact e1, show (x.2.1 == t.2.1) = false by rw [beq_eq_false_iff_ne]; exact e2]
          simp only [cond_true, cond_false]
          rw [room_ok (by simp; omega), w3]
        · rw [show (x.2.2.1 == t.2.2.1) = false by rw [beq_eq_false_iff_ne]; exact e1]
          simp only [cond_false]
          rw [room_ok (by simp; omega), w3]
    · unfold wF at h
      simp only [] at h
      have hbl : (bif !d && decide (key x > key t) then (true, out ++ [t]) else (d, out) : WAcc).2.length ≤ 2 * i + 1 := by cases (!d && decide (key x > key t)) <;> simp <;> omega
      cases hq : decide (key x = key t) with
      | true => rw [hq] at h; cases h; simp only [List.length_append, List.length_singleton]; omega
      | false => rw [hq] at h; cases h; simp only [List.length_append, List.length_singleton]; omega) (fun a _ => by
    unfold pledgeref22_With.l1
    simp only [dec_f (show ¬ (l.length : Int) < (l.length : Int) by omega), cond_false]
    rfl)
  rw [show (((0 : Nat) : Int)) = 0 from rfl] at run
  obtain ⟨d, o, g1, g2⟩ := walk_with t l 0 lo [] hok
  rw [g1] at run
  rw [run, Option.bind_some]
  unfold wEnd
  simp only []
  have hins : (ins t l).length ≤ l.length + 1 := ins_len t l
  rw [List.nil_append] at g2
  cases d with
  | true => simp only [Bool.not_true, cond_false] at g2 ⊢; rw [g2]
  | false =>
    simp only [Bool.not_false, cond_true] at g2 ⊢
    have : o.length + 1 = (ins t l).length := by rw [← g2]; simp
    rw [room_ok (by simp; omega), g2]
end Go.Proofs.Pure

/- Orders that turn: what they name stays. -/
namespace Go.Proofs.Pure
open Go.Proofs.D Go.Proofs.F

def T (k : Int) (l : List Tk) : Int := total (l.flatMap (ofTake k))
def L (k : Int) (l : List Ln) : Int := total (l.flatMap (ofLine k))
theorem T_nil (k : Int) : T k [] = 0 := rfl
theorem T_cons (k : Int) (x : Tk) (l : List Tk) : T k (x :: l) = (if x.2.1 = k then x.2.2.2.1 else 0) + T k l := by
  unfold T ofTake
  rw [List.flatMap_cons, total_append]
  by_cases h : x.2.1 = k
  · rw [show (x.2.1 == k) = true by rw [beq_iff_eq]; exact h, if_pos h]; simp [total]
  · rw [show (x.2.1 == k) = false by rw [beq_eq_false_iff_ne]; exact h, if_neg h]; simp [total]
theorem L_cons (k : Int) (x : Ln) (l : List Ln) : L k (x :: l) = (if x.1 = k then x.2.1 else 0) + L k l := by
  unfold L ofLine
  rw [List.flatMap_cons, total_append]
  by_cases h : x.1 = k
  · rw [show (x.1 == k) = true by rw [beq_iff_eq]; exact h, if_pos h]; simp [total]
  · rw [show (x.1 == k) = false by rw [beq_eq_false_iff_ne]; exact h, if_neg h]; simp [total]
theorem T_append (k : Int) (a b : List Tk) : T k (a ++ b) = T k a + T k b := by unfold T; rw [List.flatMap_append, total_append]
theorem named_total (k : Int) (t : List Tk) (l : List Ln) : total (namedOf k t l) = T k t + L k l := by unfold namedOf T L; rw [total_append]
theorem sumOf_congr {a b : List Int} (h : total a = total b) : sumOf a = sumOf b := by unfold sumOf; rw [h]

theorem T_nonneg {id lo : Int} (k : Int) : ∀ {l : List Tk}, okFrom id lo l → 0 ≤ T k l
  | [], _ => Int.le_refl _
  | x :: l, ⟨h1, _, h3⟩ => by
    have := T_nonneg k h3
    have := h1.qty
    rw [T_cons]; split <;> omega
theorem T_mem {id lo : Int} : ∀ {l : List Tk}, okFrom id lo l → ∀ x ∈ l, x.2.2.2.1 ≤ T x.2.1 l
  | [], _, x, hx => by cases hx
  | y :: l, ⟨h1, _, h3⟩, x, hx => by
    have hn := T_nonneg x.2.1 h3
    have hq := h1.qty
    rw [T_cons]
    rcases List.mem_cons.1 hx with e | hx
    · subst e; rw [if_pos rfl]; omega
    · have := T_mem h3 x hx
      split <;> omega

theorem key_sku {id jd : Int} {x t : Tk} (hx : Valid id x) (ht : Valid jd t) (h : key x = key t) : x.2.1 = t.2.1 := ((key_eq hx ht).2 h).2

theorem ins_T {id : Int} {t : Tk} (ht : Valid id t) (k : Int) : ∀ {l : List Tk} {lo : Int}, okFrom id lo l → T k (ins t l) = T k l + (if t.2.1 = k then t.2.2.2.1 else 0)
  | [], _, _ => by unfold ins; rw [T_cons, T_nil]; omega
  | x :: l, lo, ⟨h1, h2, h3⟩ => by
    unfold ins
    by_cases q : key x < key t
    · rw [if_pos q, T_cons, T_cons, ins_T ht k h3]; omega
    · rw [if_neg q]
      by_cases r : key x = key t
      · rw [if_pos r, T_cons, T_cons]
        have e := key_sku h1 ht r
        unfold merge
        simp only []
        rw [e]
        split <;> omega
      · rw [if_neg r, T_cons]; omega

theorem ins_ok {id : Int} {t : Tk} (ht : Valid id t) : ∀ {l : List Tk} {lo : Int}, okFrom id lo l → lo < key t → (∀ x ∈ l, key x = key t → x.2.2.2.1 + t.2.2.2.1 < 9223372036854775808) → okFrom id lo (ins t l)
  | [], lo, _, hlo, _ => ⟨ht, hlo, trivial⟩
  | x :: l, lo, ⟨h1, h2, h3⟩, hlo, hf => by
    unfold ins
    by_cases q : key x < key t
    · rw [if_pos q]
      exact ⟨h1, h2, ins_ok ht h3 q fun y hy => hf y (List.mem_cons_of_mem _ hy)⟩
    · rw [if_neg q]
      by_cases r : key x = key t
      · rw [if_pos r]
        have hq1 := h1.qty; have hq2 := ht.qty
        have := hf x List.mem_cons_self r
        exact ⟨⟨h1.id, h1.sku, h1.ware, by show 1 ≤ x.2.2.2.1 + t.2.2.2.1 ∧ x.2.2.2.1 + t.2.2.2.1 < 9223372036854775808; omega⟩, h2, h3⟩
      · rw [if_neg r]
        exact ⟨ht, hlo, h1, by omega, h3⟩

theorem wf_mk_i64 {n : Int} (h1 : -9223372036854775808 ≤ n) (h2 : n < 9223372036854775808) : (Lit.int .i64 n).wf = true := by
  simp only [Lit.wf, Bool.and_eq_true, decide_eq_true_eq, show IntKind.i64.min = -9223372036854775808 by decide, show IntKind.i64.max = 9223372036854775807 by decide]
  omega

theorem ins_wf {id : Int} {t : Tk} (hw : WfE kTake t) (ht : Valid id t) : ∀ {l : List Tk} {lo : Int}, okFrom id lo l → (∀ x ∈ l, key x = key t → x.2.2.2.1 + t.2.2.2.1 < 9223372036854775808) → (∀ x ∈ l, WfE kTake x) → ∀ x ∈ ins t l, WfE kTake x
  | [], lo, _, _, _, x, hx => by rcases List.mem_singleton.1 hx with rfl; exact hw
  | y :: l, lo, ⟨h1, h2, h3⟩, hf, hl, x, hx => by
    unfold ins at hx
    by_cases q : key y < key t
    · rw [if_pos q] at hx
      rcases List.mem_cons.1 hx with e | hx
      · subst e; exact hl _ List.mem_cons_self
      · exact ins_wf hw ht h3 (fun y hy => hf y (List.mem_cons_of_mem _ hy)) (fun y hy => hl y (List.mem_cons_of_mem _ hy)) x hx
    · rw [if_neg q] at hx
      by_cases r : key y = key t
      · rw [if_pos r] at hx
        rcases List.mem_cons.1 hx with e | hx
        · subst e
          have hy := hl y List.mem_cons_self
          have := hf y List.mem_cons_self r
          have hq1 := h1.qty; have hq2 := ht.qty
          exact ⟨hy.1, hy.2.1, hy.2.2.1, wf_mk_i64 (by show -9223372036854775808 ≤ y.2.2.2.1 + t.2.2.2.1; omega) this, trivial⟩
        · exact hl x (List.mem_cons_of_mem _ hx)
      · rw [if_neg r] at hx
        rcases List.mem_cons.1 hx with e | hx
        · subst e; exact hw
        · exact hl x hx

/-! ### Lines in order -/
def lnFrom : Int → List Ln → Prop
  | _, [] => True
  | lo, x :: l => lo < x.1 ∧ x.1 < 4 ∧ 1 ≤ x.2.1 ∧ lnFrom x.1 l

def lnB (l : List Ln) : Nat → Int | 0 => -1 | j + 1 => (at0 l j).1
theorem ln_of_lines {l : List Ln} (hw : ∀ x ∈ l, WfE kLine x) (h : allFrom (lineR 4 l) 0 l.length = true) : ∀ (k j : Nat), j + k = l.length → lnFrom (lnB l j) (l.drop j)
  | 0, j, hj => by rw [List.drop_eq_nil_iff.2 (by omega)]; trivial
  | k + 1, j, hj => by
    have hlt : j < l.length := by omega
    have hg := at_get hlt
    have hd : l.drop j = at0 l j :: l.drop (j + 1) := by
      rw [List.drop_eq_getElem_cons hlt]
      have e := List.getElem?_eq_getElem hlt
      rw [hg] at e; rw [Option.some.inj e]
    have hq := (allFrom_iff.1 h) j (by omega) (by omega)
    unfold lineR at hq
    simp only [Bool.and_eq_true, Bool.or_eq_true, Bool.not_eq_true', decide_eq_false_iff_not] at hq
    have hw1 := wfL hw hlt
    rw [hd]
    refine ⟨?_, by omega, by omega, ln_of_lines hw h k (j + 1) (by omega)⟩
    cases j with
    | zero => show -1 < (at0 l 0).1; omega
    | succ j =>
      rcases hq.2.2 with q | q
      · cases q
      · rw [Nat.add_sub_cancel] at q; show (at0 l j).1 < _; omega
theorem ln_of {l : List Ln} (hw : ∀ x ∈ l, WfE kLine x) (h : linesB 4 l = true) : lnFrom (-1) l ∧ l.length ≤ 3 := by
  unfold linesB at h
  simp only [Bool.and_eq_true, decide_eq_true_eq] at h
  have := ln_of_lines hw h.1 l.length 0 (by omega)
  exact ⟨by simpa [lnB] using this, by omega⟩

theorem lines_of_ln {l : List Ln} (h : lnFrom (-1) l) (hl : l.length ≤ 3) : linesB 4 l = true := by
  have go : ∀ (k j : Nat) (lo : Int), j + k = l.length → lnFrom lo (l.drop j) → (j = 0 ∨ (at0 l (j - 1)).1 ≤ lo) → ∀ i, j ≤ i → i < l.length → lineR 4 l i = true := by
    intro k
    induction k with
    | zero => intro j lo hj _ _ i h1 h2; omega
    | succ k ih =>
      intro j lo hj hok hp i h1 h2
      have hlt : j < l.length := by omega
      have hg := at_get hlt
      have hd : l.drop j = at0 l j :: l.drop (j + 1) := by
        rw [List.drop_eq_getElem_cons hlt]
        have e := List.getElem?_eq_getElem hlt
        rw [hg] at e; rw [Option.some.inj e]
      rw [hd] at hok
      obtain ⟨v1, v2, v3, v4⟩ := hok
      by_cases e : i = j
      · subst e
        unfold lineR
        rw [dec_f (by omega : ¬ (at0 l i).1 ≥ 4), dec_f (by omega : ¬ (at0 l i).2.1 < 1)]
        rcases hp with e | e
        · subst e; rfl
        · cases i with
          | zero => rfl
          | succ i => rw [dec_f (by omega : ¬ (at0 l (i + 1 - 1)).1 ≥ (at0 l (i + 1)).1), Bool.not_false, Bool.or_true]; rfl
      · exact ih (j + 1) _ (by omega) v4 (.inr (Int.le_refl _)) i (by omega) h2
  unfold linesB
  rw [Bool.and_eq_true, decide_eq_true_eq]
  exact ⟨allFrom_iff.2 fun i h1 h2 => go l.length 0 (-1) (by omega) (by simpa using h) (.inl rfl) i (by omega) (by omega), by omega⟩

theorem first_cons (k : Int) (a : Ln) (r : List Ln) : firstOf k (a :: r) = if a.1 = k then a.2.1 else firstOf k r := by
  have shift : ∀ (r : List Ln) (i j : Nat), walkL (firstF k) (fun _ => .inl ()) i r () = walkL (firstF k) (fun _ => .inl ()) j r () := by
    intro r
    induction r with
    | nil => intro i j; rfl
    | cons b r ih =>
      intro i j
      simp only [walkL]
      have e : firstF k i b () = firstF k j b () := rfl
      rw [e]
      cases firstF k j b () with
      | inr q => rfl
      | inl q => exact ih (i + 1) (j + 1)
  simp only [firstOf, firstF, walkL]
  by_cases q : a.1 = k
  · rw [show (a.1 == k) = true by rw [beq_iff_eq]; exact q, if_pos q]; rfl
  · rw [show (a.1 == k) = false by rw [beq_eq_false_iff_ne]; exact q, if_neg q]
    simp only [cond_false]
    rw [shift r (0 + 1) 0]

theorem L_above {k : Int} : ∀ {l : List Ln} {lo : Int}, lnFrom lo l → k ≤ lo → L k l = 0 ∧ firstOf k l = 0
  | [], _, _, _ => ⟨rfl, rfl⟩
  | x :: l, lo, ⟨h1, h2, h3, h4⟩, hk => by
    obtain ⟨e1, e2⟩ := L_above h4 (show k ≤ x.1 by omega)
    rw [L_cons, first_cons, if_neg (by omega), if_neg (by omega), e1, e2]; exact ⟨rfl, rfl⟩
theorem L_first {k : Int} : ∀ {l : List Ln} {lo : Int}, lnFrom lo l → L k l = firstOf k l
  | [], _, _ => rfl
  | x :: l, lo, ⟨h1, h2, h3, h4⟩ => by
    rw [L_cons, first_cons]
    by_cases q : x.1 = k
    · rw [if_pos q, if_pos q, (L_above h4 (by omega)).1]; omega
    · rw [if_neg q, if_neg q, L_first h4]; omega
theorem first_nonneg {k : Int} : ∀ {l : List Ln} {lo : Int}, lnFrom lo l → 0 ≤ firstOf k l
  | [], _, _ => Int.le_refl _
  | x :: l, lo, ⟨h1, h2, h3, h4⟩ => by
    rw [first_cons]
    have := first_nonneg (k := k) h4
    split <;> omega

/-! ### Fewer of an article -/
def lessG (sku q : Int) (e : Ln) : List Ln := bif e.1 == sku then (bif decide (IntKind.i64.wrap (e.2.1 - q) > 0) then [(e.1, (IntKind.i64.wrap (e.2.1 - q), e.2.2))] else []) else bif decide (e.2.1 > 0) then [e] else []
theorem lessG_len (sku q : Int) (e : Ln) : (lessG sku q e).length ≤ 1 := by
  unfold lessG
  cases (e.1 == sku) <;> cases decide (IntKind.i64.wrap (e.2.1 - q) > 0) <;> cases decide (e.2.1 > 0) <;> simp
def lessL (sku q : Int) (l : List Ln) : List Ln := l.flatMap (lessG sku q)

theorem less_val (sku q : Int) (l : List Ln) (hl : l.length < 100000) : pledgeref22_less l sku q = some (lessL sku q l) := by
  unfold pledgeref22_less
  have := loop_walk (step := pledgeref22_less.l1) l (fun i (acc : List Ln) => ((l, (sku, (q, ((), (i : Int))))), (acc, ()))) (fun _ y acc => .inl (acc ++ lessG sku q y)) (fun acc => ((), (acc, ()))) (fun i acc => acc.length ≤ i) [] (by omega) (by simp) (fun i y acc hx hI => by
    have hi := get_lt hx
    refine ⟨?_, fun _ h => by cases h; have := lessG_len sku q y; simp only [List.length_append]; omega⟩
    unfold pledgeref22_less.l1 lessG
    simp only [dec_t (show (i : Int) < (l.length : Int) by omega), cond_true]
    rw [nthK_get hx, succ_i64 (by omega), room_ok (by simp; omega), room_ok (by simp; omega)]
    cases (y.1 == sku) with
    | true => cases decide (IntKind.i64.wrap (y.2.1 - q) > 0) <;> simp
    | false => cases decide (y.2.1 > 0) <;> simp) (fun acc _ => by
    unfold pledgeref22_less.l1
    simp only [dec_f (show ¬ (l.length : Int) < (l.length : Int) by omega), cond_false])
  rw [show (((0 : Nat) : Int)) = 0 from rfl] at this
  rw [this, walk_gather, List.nil_append]
  rfl

theorem less_ln {sku q : Int} (hq : 1 ≤ q) : ∀ {l : List Ln} {lo : Int}, lnFrom lo l → (∀ x ∈ l, x.2.1 < 9223372036854775808) → (∀ x ∈ l, x.1 = sku → q ≤ x.2.1) → lnFrom lo (lessL sku q l) ∧ (lessL sku q l).length ≤ l.length ∧ ∀ k, firstOf k (lessL sku q l) = firstOf k l - (if k = sku ∧ (∃ x ∈ l, x.1 = sku) then q else 0)
  | [], lo, _, _, _ => ⟨trivial, Nat.le_refl _, fun k => by simp [lessL, firstOf, walkL]⟩
  | x :: l, lo, ⟨h1, h2, h3, h4⟩, hb, hle => by
    obtain ⟨i1, i2, i3⟩ := less_ln hq h4 (fun y hy => hb y (List.mem_cons_of_mem _ hy)) (fun y hy => hle y (List.mem_cons_of_mem _ hy))
    have hx := hb x List.mem_cons_self
    have lowered : lnFrom lo (lessL sku q l) := by
      revert i1
      cases lessL sku q l with
      | nil => exact fun _ => trivial
      | cons y r => exact fun h => ⟨by have := h.1; omega, h.2⟩
    have e : lessL sku q (x :: l) = lessG sku q x ++ lessL sku q l := by unfold lessL; rw [List.flatMap_cons]
    rw [e]
    unfold lessG
    by_cases c : x.1 = sku
    · have hqx := hle x List.mem_cons_self c
      rw [show (x.1 == sku) = true by rw [beq_iff_eq]; exact c, wrap_i64 (by omega) (by omega)]
      have hno : ¬ ∃ y ∈ l, y.1 = sku := by
        rintro ⟨y, hy, e1⟩
        have : ∀ {l : List Ln} {lo : Int}, lnFrom lo l → ∀ y ∈ l, lo < y.1 := by
          intro l
          induction l with
          | nil => intro lo _ y hy; cases hy
          | cons z l ih =>
            intro lo h y hy
            rcases List.mem_cons.1 hy with e | hy
            · subst e; exact h.1
            · have := ih h.2.2.2 y hy; have := h.1; omega
        have := this h4 y hy; omega
      have hz : ∀ k, (if k = sku ∧ (∃ y ∈ l, y.1 = sku) then q else 0) = 0 := fun k => if_neg (fun h => hno h.2)
      simp only [cond_true]
      by_cases r : x.2.1 - q > 0
      · rw [dec_t r]
        simp only [cond_true, List.singleton_append]
        refine ⟨⟨h1, h2, by show 1 ≤ x.2.1 - q; omega, i1⟩, by simp only [List.length_cons]; omega, fun k => ?_⟩
        rw [first_cons, first_cons, i3 k, hz]
        simp only []
        by_cases hk : x.1 = k
        · rw [if_pos hk, if_pos hk, if_pos ⟨by omega, x, List.mem_cons_self, c⟩]
        · rw [if_neg hk, if_neg hk, if_neg (fun h => hk (by omega))]
      · rw [dec_f r]
        simp only [cond_false, List.nil_append]
        refine ⟨lowered, by simp only [List.length_cons]; omega, fun k => ?_⟩
        rw [first_cons, i3 k, hz]
        by_cases hk : x.1 = k
        · rw [if_pos hk, if_pos ⟨by omega, x, List.mem_cons_self, c⟩, (L_above h4 (show k ≤ x.1 by omega)).2]; omega
        · rw [if_neg hk, if_neg (fun h => hk (by omega))]
    · rw [show (x.1 == sku) = false by rw [beq_eq_false_iff_ne]; exact c, dec_t (by omega : x.2.1 > 0)]
      simp only [cond_true, cond_false, List.singleton_append]
      refine ⟨⟨h1, h2, h3, i1⟩, by simp only [List.length_cons]; omega, fun k => ?_⟩
      rw [first_cons, first_cons, i3 k]
      have hiff : (∃ y ∈ x :: l, y.1 = sku) ↔ ∃ y ∈ l, y.1 = sku :=
        ⟨fun ⟨y, hy, h⟩ => by rcases List.mem_cons.1 hy with e | hy; subst e; exact absurd h c; exact ⟨y, hy, h⟩, fun ⟨y, hy, h⟩ => ⟨y, List.mem_cons_of_mem _ hy, h⟩⟩
      simp only [hiff]
      by_cases hk : x.1 = k
      · rw [if_pos hk, if_pos hk, if_neg (fun h => c (by omega))]; omega
      · rw [if_neg hk, if_neg hk]
end Go.Proofs.Pure

/- What fillings and programs make of orders; good orders stay good. -/
namespace Go.Proofs.Pure
open Go.Proofs.D Go.Proofs.F

structure GoodO (x : Ord) : Prop where
  id : x.1 ≠ 0
  policy : ¬ x.2.1 > 1
  pos : (x.2.2.1.length : Int) ≠ 0
  lines : linesB 4 x.2.2.1 = true
  owes : lnFrom (-1) x.2.2.2.2.2.1
  few : x.2.2.2.2.2.1.length ≤ 3
  held : okFrom x.1 (-1) x.2.2.2.1
  sent : okFrom x.1 (-1) x.2.2.2.2.1
  named : ∀ k : Nat, k < 4 → T k x.2.2.2.1 + T k x.2.2.2.2.1 + L k x.2.2.2.2.2.1 < 9223372036854775808 ∧ T k x.2.2.2.1 + T k x.2.2.2.2.1 + L k x.2.2.2.2.2.1 ≤ firstOf k x.2.2.1

theorem sumOf_ok {l : List Int} (h : (sumOf l).2.1 = true) : sumOf l = (total l, (true, ())) ∧ -9223372036854775808 ≤ total l ∧ total l < 9223372036854775808 := by
  unfold sumOf at h ⊢
  by_cases q : fitsI (total l) = true
  · rw [if_pos q] at h ⊢
    unfold fitsI at q
    simp only [Bool.and_eq_true, decide_eq_true_eq] at q
    exact ⟨rfl, q⟩
  · rw [if_neg q] at h; cases h

theorem L_nonneg {k : Int} {l : List Ln} {lo : Int} (h : lnFrom lo l) : 0 ≤ L k l := by rw [L_first h]; exact first_nonneg h

theorem good_of {x : Ord} (h : FewO x) (hg : goodO x = true) : GoodO x := by
  unfold goodO at hg
  simp only [Bool.and_eq_true, Bool.not_eq_true', beq_eq_false_iff_ne, decide_eq_false_iff_not] at hg
  obtain ⟨h1, h2, h3, h4, h5, h6, h7, h8⟩ := hg
  obtain ⟨o1, o2⟩ := ln_of h.w4 h5
  refine ⟨h1, h2, h3, h4, o1, o2, ok_of h.w2 h6, ok_of h.w3 h7, fun k hk => ?_⟩
  have := (allFrom_iff.1 h8) k (by omega) (by omega)
  unfold namedR at this
  simp only [Bool.and_eq_true, Bool.not_eq_true', decide_eq_false_iff_not] at this
  obtain ⟨e1, e2, e3⟩ := sumOf_ok this.1
  rw [e1] at this
  rw [named_total, T_append] at this e3
  exact ⟨e3, by have := this.2; omega⟩

theorem of_good {x : Ord} (hg : GoodO x) : goodO x = true := by
  unfold goodO
  simp only [Bool.and_eq_true, Bool.not_eq_true', beq_eq_false_iff_ne, decide_eq_false_iff_not]
  refine ⟨hg.id, hg.policy, hg.pos, hg.lines, lines_of_ln hg.owes hg.few, takes_of_ok hg.held, takes_of_ok hg.sent, allFrom_iff.2 fun k _ hk => ?_⟩
  obtain ⟨n1, n2⟩ := hg.named k (by omega)
  have e1 := T_nonneg k hg.held; have e2 := T_nonneg k hg.sent; have e3 := L_nonneg (k := k) hg.owes
  unfold namedR
  rw [sumOf_fit (by rw [named_total, T_append]; omega) (by rw [named_total, T_append]; exact n1), named_total, T_append]
  simp only [Bool.true_and]
  rw [dec_f (by omega)]; rfl

/-! ### Filling -/
def filled (x : Ord) (t : Tk) : Ord := (x.1, (x.2.1, (x.2.2.1, (ins t x.2.2.2.1, (x.2.2.2.2.1, (lessL t.2.1 t.2.2.2.1 x.2.2.2.2.2.1, ()))))))
def fillO (x : Ord) (t : Tk) : Ord × Int × Unit :=
  bif !goodO x then (x, (12, ())) else bif !tkBase 4 4 x.1 t then (x, (1, ())) else bif decide (firstOf t.2.1 x.2.2.2.2.2.1 < t.2.2.2.1) then (x, (12, ())) else (filled x t, (0, ()))

theorem fits_fill {x : Ord} {t : Tk} (hg : GoodO x) (ht : Valid x.1 t) (ho : ¬ firstOf t.2.1 x.2.2.2.2.2.1 < t.2.2.2.1) : ∀ e ∈ x.2.2.2.1, key e = key t → e.2.2.2.1 + t.2.2.2.1 < 9223372036854775808 := by
  intro e he hk
  have hs := ht.sku
  obtain ⟨v, _⟩ := hg.held.mem e he
  have e1 := key_sku v ht hk
  have e2 := T_mem hg.held e he
  obtain ⟨n, hn⟩ : ∃ n : Nat, t.2.1 = (n : Int) := Int.eq_ofNat_of_zero_le hs.1
  have e3 := (hg.named n (by omega)).1
  have e4 := T_nonneg n hg.sent
  rw [L_first hg.owes] at e3
  rw [e1, hn] at e2
  rw [hn] at ho
  omega

theorem order_less (sku q : Int) (l : List Ln) (hl : l.length < 100000) (X : (Int × Int × Unit × Unit × Unit × Unit × Unit)) (t : Tk) (Y : (Int × Int × Unit × Unit × Unit × Unit × Unit)) (A : List Ln) (B C : List Tk) (h1 : t.2.1 = sku) (h2 : t.2.2.2.1 = q) :
    iterL order_Fill.l1 loopN (((), ((), ((), ((), ((), ((l.length : Int), 0)))))), (X, (t, (Y, ([], (l, (A, (B, (C, ()))))))))) = some (((), ((), ((), ()))), (X, (t, (Y, (lessL sku q l, (A, (B, (C, (l, ()))))))))) := by
  subst h1; subst h2
  have := loop_walk (step := order_Fill.l1) l (fun i (acc : List Ln) => (((), ((), ((), ((), ((), ((l.length : Int), (i : Int))))))), (X, (t, (Y, (acc, (l, (A, (B, (C, ()))))))))) ) (fun _ y acc => .inl (acc ++ lessG t.2.1 t.2.2.2.1 y)) (fun acc => (((), ((), ((), ()))), (X, (t, (Y, (acc, (A, (B, (C, (l, ())))))))))) (fun i acc => acc.length ≤ i) [] (by omega) (by simp) (fun i y acc hx hI => by
    have hi := get_lt hx
    refine ⟨?_, fun _ h => by cases h; have := lessG_len t.2.1 t.2.2.2.1 y; simp only [List.length_append]; omega⟩
    unfold order_Fill.l1 lessG
    simp only [dec_t (show (i : Int) < (l.length : Int) by omega), dec_t (show (0 : Int) ≤ (i : Int) by omega), Bool.and_true, cond_true]
    rw [chk_true rfl, nthK_get hx, succ_i64 (by omega), room_ok (by simp; omega), room_ok (by simp; omega)]
    cases (y.1 == t.2.1) with
    | true => cases decide (IntKind.i64.wrap (y.2.1 - t.2.2.2.1) > 0) <;> simp
    | false => cases decide (y.2.1 > 0) <;> simp) (fun acc _ => by
    unfold order_Fill.l1
    simp only [dec_f (show ¬ (l.length : Int) < (l.length : Int) by omega), cond_false])
  rw [show (((0 : Nat) : Int)) = 0 from rfl] at this
  rw [this, walk_gather, List.nil_append]
  rfl

theorem fill_val (x : Ord) (t : Tk) (h : FewO x) (hw : WfE kTake t) : order_Fill x t = some (fillO x t) := by
  have l1 := h.lines; have l2 := h.held; have l3 := h.sent; have l4 := h.owes
  have hG := orderGood_val x h
  have hO := owed_val x t.2.1 (by omega)
  have hg := good_of h
  have hff := @fits_fill x t
  unfold order_Fill fillO filled
  rw [copy_val x (by omega) (by omega) (by omega) (by omega)]
  obtain ⟨o1, o2, lines, held, sent, owes, u⟩ := x
  simp only [Option.bind_some] at *
  rw [hG]
  cases c1 : goodO (o1, o2, lines, held, sent, owes, u) with
  | false => rfl
  | true =>
    simp only [Option.bind_some, Bool.not_true, cond_false, fine_val]
    cases c2 : tkBase 4 4 o1 t with
    | false => rfl
    | true =>
      simp only [Bool.not_true, cond_false]
      rw [hO, Option.bind_some]
      cases c3 : decide (firstOf t.2.1 owes < t.2.2.2.1) with
      | true => rfl
      | false =>
        simp only [cond_false]
        have hv := (base_valid hw).1 c2
        have hgo := hg c1
        rw [order_less t.2.1 t.2.2.2.1 owes (by omega) _ t _ _ _ _ rfl rfl, Option.bind_some]
        simp only []
        rw [with_val t held (by omega) ⟨_, hv⟩ (fun y hy => ⟨_, (hgo.held.mem y hy).1⟩) (hff hgo hv (by simpa using c3)), Option.bind_some]

theorem refFill_val (x : Ord) (t : Tk) (h : FewO x) (hw : WfE kTake t) : pledgeref22_Fill x t = some (fillO x t) := by
  have l1 := h.lines; have l2 := h.held; have l3 := h.sent; have l4 := h.owes
  unfold pledgeref22_Fill fillO filled
  rw [ref22Good_val x h, refOwed_val x t.2.1 (by omega)]
  cases c1 : goodO x with
  | false => rfl
  | true =>
    simp only [Option.bind_some, Bool.not_true, cond_false]
    have hgo := good_of h c1
    cases c2 : tkBase 4 4 x.1 t with
    | false =>
      unfold tkBase at c2
      revert c2
      have e1 : (t.1 != x.1) = !(t.1 == x.1) := rfl
      cases (t.1 != x.1) <;> cases decide (t.2.1 ≥ 4) <;> cases decide (t.2.2.1 ≥ 4) <;> cases decide (t.2.2.2.1 < 1) <;> intro c2 <;> first | rfl | cases c2
    | true =>
      have hv := (base_valid hw).1 c2
      have hs := hv.sku; have hwr := hv.ware; have hq := hv.qty
      rw [show (t.1 != x.1) = false by simp [bne, hv.id], dec_f (by omega : ¬ t.2.1 ≥ 4), dec_f (by omega : ¬ t.2.2.1 ≥ 4), dec_f (by omega : ¬ t.2.2.2.1 < 1)]
      simp only [Bool.not_true, cond_false]
      cases c3 : decide (firstOf t.2.1 x.2.2.2.2.2.1 < t.2.2.2.1) with
      | true => rfl
      | false =>
        simp only [cond_false]
        rw [less_val _ _ _ (by omega), Option.bind_some, With_val t x.2.2.2.1 (by omega) ⟨_, hv⟩ hgo.held (fits_fill hgo hv (by simpa using c3)), Option.bind_some]

theorem wrap_range (n : Int) : -9223372036854775808 ≤ IntKind.i64.wrap n ∧ IntKind.i64.wrap n < 9223372036854775808 := by
  unfold IntKind.wrap
  simp only [IntKind.bits, IntKind.signed, Bool.true_and, decide_eq_true_eq, show (2 : Int) ^ 64 = 18446744073709551616 by decide, show (2 : Int) ^ (64 - 1) = 9223372036854775808 by decide]
  split <;> omega

theorem less_wf {sku q : Int} {l : List Ln} (h : ∀ x ∈ l, WfE kLine x) : ∀ x ∈ lessL sku q l, WfE kLine x := by
  intro x hx
  obtain ⟨e, he, hx⟩ := List.mem_flatMap.1 hx
  have hw := h e he
  unfold lessG at hx
  revert hx
  cases (e.1 == sku) with
  | true =>
    cases decide (IntKind.i64.wrap (e.2.1 - q) > 0) with
    | true => intro hx; rcases List.mem_singleton.1 hx with rfl; have := wrap_range (e.2.1 - q); exact ⟨hw.1, wf_mk_i64 this.1 this.2, trivial⟩
    | false => intro hx; cases hx
  | false =>
    cases decide (e.2.1 > 0) with
    | true => intro hx; rcases List.mem_singleton.1 hx with rfl; exact hw
    | false => intro hx; cases hx

theorem first_zero {k : Int} : ∀ {l : List Ln}, (¬ ∃ x ∈ l, x.1 = k) → firstOf k l = 0
  | [], _ => rfl
  | x :: l, h => by
    rw [first_cons, if_neg (fun e => h ⟨x, List.mem_cons_self, e⟩)]
    exact first_zero fun ⟨y, hy, e⟩ => h ⟨y, List.mem_cons_of_mem _ hy, e⟩
theorem first_mem {k : Int} : ∀ {l : List Ln} {lo : Int}, lnFrom lo l → ∀ x ∈ l, x.1 = k → firstOf k l = x.2.1
  | [], _, _, x, hx, _ => by cases hx
  | y :: l, lo, ⟨h1, h2, h3, h4⟩, x, hx, e => by
    rw [first_cons]
    rcases List.mem_cons.1 hx with q | hx
    · subst q; rw [if_pos e]
    · have hm : ∀ {l : List Ln} {lo : Int}, lnFrom lo l → ∀ y ∈ l, lo < y.1 := by
        intro l
        induction l with
        | nil => intro lo _ y hy; cases hy
        | cons z l ih =>
          intro lo h y hy
          rcases List.mem_cons.1 hy with e | hy
          · subst e; exact h.1
          · have := ih h.2.2.2 y hy; have := h.1; omega
      have := hm h4 x hx
      rw [if_neg (by omega)]
      exact first_mem h4 x hx e

/-- The filled order: good, with the same parts of each article. -/
theorem filled_good {x : Ord} {t : Tk} (h : FewO x) (hg : GoodO x) (hv : Valid x.1 t) (ho : ¬ firstOf t.2.1 x.2.2.2.2.2.1 < t.2.2.2.1) :
    GoodO (filled x t) ∧ (∀ k, T k (ins t x.2.2.2.1) = T k x.2.2.2.1 + (if t.2.1 = k then t.2.2.2.1 else 0)) ∧ ∀ k, firstOf k (lessL t.2.1 t.2.2.2.1 x.2.2.2.2.2.1) = firstOf k x.2.2.2.2.2.1 - (if t.2.1 = k then t.2.2.2.1 else 0) := by
  have hq := hv.qty
  obtain ⟨e1, e2, e3⟩ := less_ln (sku := t.2.1) (q := t.2.2.2.1) hq.1 hg.owes (fun y hy => (wf_i64 (h.w4 y hy).2.1).2) (fun y hy e => by have := first_mem hg.owes y hy e; omega)
  have hex : ∃ y ∈ x.2.2.2.2.2.1, y.1 = t.2.1 := by
    refine Classical.byContradiction fun hn => ?_
    have := first_zero hn
    omega
  have hf : ∀ k, firstOf k (lessL t.2.1 t.2.2.2.1 x.2.2.2.2.2.1) = firstOf k x.2.2.2.2.2.1 - (if t.2.1 = k then t.2.2.2.1 else 0) := by
    intro k
    rw [e3 k]
    by_cases hk : t.2.1 = k
    · rw [if_pos hk, if_pos ⟨hk.symm, hex⟩]
    · rw [if_neg hk, if_neg (fun q => hk q.1.symm)]
  have hT := fun k => ins_T hv k hg.held
  have hs := hv.sku; have hwr := hv.ware
  refine ⟨⟨hg.id, hg.policy, hg.pos, hg.lines, e1, by have := hg.few; show (lessL _ _ _).length ≤ 3; omega, ins_ok hv hg.held (by unfold key; omega) (fits_fill hg hv ho), hg.sent, fun k hk => ?_⟩, hT, hf⟩
  obtain ⟨n1, n2⟩ := hg.named k hk
  show T k (ins t x.2.2.2.1) + T k x.2.2.2.2.1 + L k (lessL t.2.1 t.2.2.2.1 x.2.2.2.2.2.1) < _ ∧ T k (ins t x.2.2.2.1) + T k x.2.2.2.2.1 + L k (lessL t.2.1 t.2.2.2.1 x.2.2.2.2.2.1) ≤ _
  rw [hT k, L_first e1, hf k]
  rw [L_first hg.owes] at n1 n2
  show _ ∧ _ ≤ firstOf k x.2.2.1
  split <;> omega

theorem filled_few {x : Ord} {t : Tk} (h : FewO x) (hw : WfE kTake t) (hh : x.2.2.2.1.length < 100) (hg : GoodO x) (hv : Valid x.1 t) (ho : ¬ firstOf t.2.1 x.2.2.2.2.2.1 < t.2.2.2.1) : FewO (filled x t) := by
  have i1 := ins_len t x.2.2.2.1
  have l3 := h.sent
  have l4 := (filled_good h hg hv ho).1.few
  refine ⟨⟨h.wf.1, h.wf.2.1, h.wf.2.2.1, ⟨by show (ins t _).length ≤ 9223372036854775807; omega, ins_wf hw hv hg.held (fits_fill hg hv ho) h.w2⟩, h.wf.2.2.2.2.1, ⟨by show (lessL _ _ _).length ≤ 9223372036854775807; have : (lessL t.2.1 t.2.2.2.1 x.2.2.2.2.2.1).length ≤ 3 := l4; omega, less_wf h.w4⟩, trivial⟩, h.lines, by show (ins t _).length ≤ 100; omega, h.sent, by show (lessL _ _ _).length ≤ 100; have : (lessL t.2.1 t.2.2.2.1 x.2.2.2.2.2.1).length ≤ 3 := l4; omega⟩
end Go.Proofs.Pure

/- What programs make of orders. -/
namespace Go.Proofs.Pure
open Go.Proofs.D Go.Proofs.F

def shipL (sent held : List Tk) : List Tk := held.foldl (fun s t => ins t s) sent
def cancelled (x : Ord) : Ord := (x.1, (x.2.1, (x.2.2.1, ([], (x.2.2.2.2.1, ([], ()))))))
def shipped (x : Ord) : Ord := (x.1, (x.2.1, (x.2.2.1, ([], (shipL x.2.2.2.2.1 x.2.2.2.1, (x.2.2.2.2.2.1, ()))))))
def returned (x : Ord) : Ord := (x.1, (x.2.1, (x.2.2.1, (x.2.2.2.1, ([], (x.2.2.2.2.2.1, ()))))))
def applyO (x : Ord) (p : Prg) : Ord × Int × Unit :=
  bif !goodO x then (x, (12, ())) else bif !goodP 4 4 p then (x, (1, ())) else bif p.2.1 != x.1 then (x, (1, ()))
  else bif p.1 == 2 then (bif sameT p.2.2.2.2.1 x.2.2.2.1 && sameL p.2.2.2.2.2.1 x.2.2.2.2.2.1 then (cancelled x, (0, ())) else (x, (12, ())))
  else bif p.1 == 3 then (bif sameT p.2.2.2.2.1 x.2.2.2.1 then (shipped x, (0, ())) else (x, (12, ())))
  else bif p.1 == 4 then (bif sameT p.2.2.2.2.1 x.2.2.2.2.1 then (returned x, (0, ())) else (x, (12, ())))
  else (x, (1, ()))

/-- What is known while it is shipped. -/
structure Along (id : Int) (sent held : List Tk) (i : Nat) (acc : List Tk) : Prop where
  ok : okFrom id (-1) acc
  len : acc.length ≤ sent.length + i
  wf : ∀ x ∈ acc, WfE kTake x
  T : ∀ k : Int, Go.Proofs.Pure.T k acc + Go.Proofs.Pure.T k (held.drop i) = Go.Proofs.Pure.T k sent + Go.Proofs.Pure.T k held

theorem okFrom.drop {id lo : Int} : ∀ {l : List Tk} (i : Nat), okFrom id lo l → ∃ lo', okFrom id lo' (l.drop i)
  | l, 0, h => ⟨lo, h⟩
  | [], i + 1, h => ⟨lo, h⟩
  | x :: l, i + 1, h => okFrom.drop i h.2.2

theorem along_fits {x : Ord} (hg : GoodO x) {i : Nat} {t : Tk} {acc : List Tk} (hx : x.2.2.2.1[i]? = some t) (hA : Along x.1 x.2.2.2.2.1 x.2.2.2.1 i acc) : Valid x.1 t ∧ ∀ e ∈ acc, key e = key t → e.2.2.2.1 + t.2.2.2.1 < 9223372036854775808 := by
  obtain ⟨v, _⟩ := hg.held.mem t (get_mem hx)
  refine ⟨v, fun e he hk => ?_⟩
  obtain ⟨v2, _⟩ := hA.ok.mem e he
  have e1 := key_sku v2 v hk
  have e2 := T_mem hA.ok e he
  have hlt := get_lt hx
  obtain ⟨lo', hd⟩ := hg.held.drop i
  have hmem : t ∈ x.2.2.2.1.drop i := by
    have : (x.2.2.2.1.drop i)[0]? = some t := by rw [List.getElem?_drop]; simpa using hx
    exact get_mem this
  have e3 := T_mem hd t hmem
  have hs := v.sku
  obtain ⟨n, hn⟩ : ∃ n : Nat, t.2.1 = (n : Int) := Int.eq_ofNat_of_zero_le hs.1
  have e4 := (hg.named n (by omega)).1
  have e5 := hA.T n
  have e6 := L_nonneg (k := n) hg.owes
  rw [e1, hn] at e2
  rw [hn] at e3
  omega

theorem along_next {x : Ord} (hg : GoodO x) (h : FewO x) {i : Nat} {t : Tk} {acc : List Tk} (hx : x.2.2.2.1[i]? = some t) (hA : Along x.1 x.2.2.2.2.1 x.2.2.2.1 i acc) : Along x.1 x.2.2.2.2.1 x.2.2.2.1 (i + 1) (ins t acc) := by
  obtain ⟨v, hf⟩ := along_fits hg hx hA
  have hs := v.sku; have hw := v.ware
  have hlt := get_lt hx
  have hd : x.2.2.2.1.drop i = t :: x.2.2.2.1.drop (i + 1) := by
    rw [List.drop_eq_getElem_cons hlt]
    have e := List.getElem?_eq_getElem hlt
    rw [hx] at e; rw [Option.some.inj e]
  refine ⟨ins_ok v hA.ok (by unfold key; omega) hf, by have := ins_len t acc; have := hA.len; omega, ins_wf (h.w2 t (get_mem hx)) v hA.ok hf hA.wf, fun k => ?_⟩
  have := hA.T k
  rw [hd, T_cons] at this
  rw [ins_T v k hA.ok]
  omega

theorem along_zero {x : Ord} (hg : GoodO x) (h : FewO x) : Along x.1 x.2.2.2.2.1 x.2.2.2.1 0 x.2.2.2.2.1 := ⟨hg.sent, Nat.le_refl _, h.w3, fun k => rfl⟩

theorem along_end {x : Ord} (hg : GoodO x) (h : FewO x) : Along x.1 x.2.2.2.2.1 x.2.2.2.1 x.2.2.2.1.length (shipL x.2.2.2.2.1 x.2.2.2.1) := by
  have go : ∀ (k i : Nat) (acc : List Tk), i + k = x.2.2.2.1.length → Along x.1 x.2.2.2.2.1 x.2.2.2.1 i acc → Along x.1 x.2.2.2.2.1 x.2.2.2.1 x.2.2.2.1.length ((x.2.2.2.1.drop i).foldl (fun s t => ins t s) acc) := by
    intro k
    induction k with
    | zero => intro i acc hi hA; rw [List.drop_eq_nil_iff.2 (by omega)]; have e : i = x.2.2.2.1.length := by omega
              subst e; exact hA
    | succ k ih =>
      intro i acc hi hA
      have hlt : i < x.2.2.2.1.length := by omega
      rw [List.drop_eq_getElem_cons hlt, List.foldl_cons]
      exact ih (i + 1) _ (by omega) (along_next hg h (List.getElem?_eq_getElem hlt) hA)
  have := go x.2.2.2.1.length 0 x.2.2.2.2.1 (by omega) (along_zero hg h)
  simpa [shipL] using this

theorem apply_loop (x : Ord) (h : FewO x) (hg : GoodO x) (Y : (Int × Int × Unit × Unit × Unit × Unit × Unit)) :
    iterL order_Apply.l1 loopN (((), ((), ((), ((x.2.2.2.1.length : Int), 0)))), ((x.1, (x.2.1, ((), ((), (x.2.2.2.2.1, ((), ())))))), (Y, (x.2.2.2.1, (x.2.2.1, (x.2.2.2.2.2.1, ())))))) =
      some (((), ()), ((x.1, (x.2.1, ((), ((), (shipL x.2.2.2.2.1 x.2.2.2.1, ((), ())))))), (Y, (x.2.2.1, (x.2.2.2.1, (x.2.2.2.2.2.1, ())))))) := by
  have l2 := h.held; have l3 := h.sent
  have := loop_walk (step := order_Apply.l1) x.2.2.2.1 (fun i (acc : List Tk) => (((), ((), ((), ((x.2.2.2.1.length : Int), (i : Int))))), ((x.1, (x.2.1, ((), ((), (acc, ((), ())))))), (Y, (x.2.2.2.1, (x.2.2.1, (x.2.2.2.2.2.1, ()))))))) (fun _ y acc => .inl (ins y acc)) (fun acc => (((), ()), ((x.1, (x.2.1, ((), ((), (acc, ((), ())))))), (Y, (x.2.2.1, (x.2.2.2.1, (x.2.2.2.2.2.1, ()))))))) (fun i acc => Along x.1 x.2.2.2.2.1 x.2.2.2.1 i acc) x.2.2.2.2.1 (by omega) (along_zero hg h) (fun i y acc hx hA => by
    have hi := get_lt hx
    obtain ⟨v, hf⟩ := along_fits hg hx hA
    refine ⟨?_, fun _ q => by cases q; exact along_next hg h hx hA⟩
    unfold order_Apply.l1
    simp only [dec_t (show (i : Int) < (x.2.2.2.1.length : Int) by omega), dec_t (show (0 : Int) ≤ (i : Int) by omega), Bool.and_true, cond_true]
    rw [chk_true rfl, nthK_get hx, succ_i64 (by omega), with_val y acc (by have := hA.len; omega) ⟨_, v⟩ (fun z hz => ⟨_, (hA.ok.mem z hz).1⟩) hf]
    rfl) (fun acc _ => by
    unfold order_Apply.l1
    simp only [dec_f (show ¬ (x.2.2.2.1.length : Int) < (x.2.2.2.1.length : Int) by omega), cond_false])
  rw [show (((0 : Nat) : Int)) = 0 from rfl] at this
  rw [this, walk_fold]
  rfl

theorem refApply_loop (x : Ord) (h : FewO x) (hg : GoodO x) (Y : (Int × Int × Unit × Unit × Unit × Unit × Unit)) :
    iterL pledgeref22_Apply.l1 loopN (((), ((), ((), 0))), (x, (Y, (x, ())))) = some (((), ()), (Y, ((x.1, (x.2.1, (x.2.2.1, (x.2.2.2.1, (shipL x.2.2.2.2.1 x.2.2.2.1, x.2.2.2.2.2))))), ()))) := by
  have l2 := h.held; have l3 := h.sent
  have := loop_walk (step := pledgeref22_Apply.l1) x.2.2.2.1 (fun i (acc : List Tk) => (((), ((), ((), (i : Int)))), (x, (Y, ((x.1, (x.2.1, (x.2.2.1, (x.2.2.2.1, (acc, x.2.2.2.2.2))))), ()))))) (fun _ y acc => .inl (ins y acc)) (fun acc => (((), ()), (Y, ((x.1, (x.2.1, (x.2.2.1, (x.2.2.2.1, (acc, x.2.2.2.2.2))))), ())))) (fun i acc => Along x.1 x.2.2.2.2.1 x.2.2.2.1 i acc) x.2.2.2.2.1 (by omega) (along_zero hg h) (fun i y acc hx hA => by
    have hi := get_lt hx
    obtain ⟨v, hf⟩ := along_fits hg hx hA
    refine ⟨?_, fun _ q => by cases q; exact along_next hg h hx hA⟩
    unfold pledgeref22_Apply.l1
    simp only [dec_t (show (i : Int) < (x.2.2.2.1.length : Int) by omega), cond_true]
    rw [nthK_get hx, succ_i64 (by omega), With_val y acc (by have := hA.len; omega) ⟨_, v⟩ hA.ok hf]
    rfl) (fun acc _ => by
    unfold pledgeref22_Apply.l1
    simp only [dec_f (show ¬ (x.2.2.2.1.length : Int) < (x.2.2.2.1.length : Int) by omega), cond_false])
  rw [show (((0 : Nat) : Int)) = 0 from rfl] at this
  refine Eq.trans this ?_
  rw [walk_fold]
  rfl

theorem refApply_val (x : Ord) (p : Prg) (h : FewO x) (hp : Few p) : pledgeref22_Apply x p = some (applyO x p) := by
  have l1 := hp.lines; have l2 := hp.takes; have l3 := hp.owes
  unfold pledgeref22_Apply applyO cancelled shipped returned
  rw [ref22Good_val x h, refGoodP_val 4 4 p hp, ref_equalT_val _ _ (by omega), ref_equalT_val _ _ (by omega), ref_equal_val _ _ (by omega)]
  cases c1 : goodO x with
  | false => rfl
  | true =>
  have hg := good_of h c1
  cases goodP 4 4 p with
  | false => rfl
  | true =>
  cases (p.2.1 != x.1) with
  | true => rfl
  | false =>
  cases (p.1 == 2) with
  | true =>
    cases sameT p.2.2.2.2.1 x.2.2.2.1 <;> cases sameL p.2.2.2.2.2.1 x.2.2.2.2.2.1 <;> rfl
  | false =>
  cases (p.1 == 3) with
  | true =>
    cases sameT p.2.2.2.2.1 x.2.2.2.1 with
    | false => rfl
    | true =>
      simp only [Option.bind_some, Bool.not_true, cond_false, cond_true]
      rw [refApply_loop x h hg, Option.bind_some]
  | false =>
  cases (p.1 == 4) with
  | true => cases sameT p.2.2.2.2.1 x.2.2.2.2.1 <;> rfl
  | false => rfl

theorem apply_val (x : Ord) (p : Prg) (h : FewO x) (hp : Few p) : order_Apply x p = some (applyO x p) := by
  have l1 := hp.lines; have l2 := hp.takes; have l3 := hp.owes
  have m1 := h.lines; have m2 := h.held; have m3 := h.sent; have m4 := h.owes
  have hG := orderGood_val x h
  have hg := good_of h
  have hL := apply_loop x h
  unfold order_Apply applyO cancelled shipped returned
  rw [copy_val x (by omega) (by omega) (by omega) (by omega), progGood_val 4 4 p hp]
  obtain ⟨o1, o2, lines, held, sent, owes, u⟩ := x
  simp only [Option.bind_some] at hG hg hL ⊢
  rw [hG]
  cases c1 : goodO (o1, o2, lines, held, sent, owes, u) with
  | false => rfl
  | true =>
  simp only [Option.bind_some, Bool.not_true, cond_false]
  cases goodP 4 4 p with
  | false => rfl
  | true =>
  simp only [Bool.not_true, cond_false]
  cases (p.2.1 != o1) with
  | true => rfl
  | false =>
  simp only [cond_false]
  have eS : slices_Equal_api_Take_api_Take p.2.2.2.2.1 sent = some (sameT p.2.2.2.2.1 sent) := equalT_val _ _ (by omega)
  have eH : slices_Equal_api_Take_api_Take p.2.2.2.2.1 held = some (sameT p.2.2.2.2.1 held) := equalT_val _ _ (by omega)
  have eL : slices_Equal_api_Line_api_Line p.2.2.2.2.2.1 owes = some (sameL p.2.2.2.2.2.1 owes) := equal_val _ _ (by omega)
  by_cases k1 : p.1 < 2
  · rw [dec_t k1, show (p.1 == 2) = false by rw [beq_eq_false_iff_ne]; omega, show (p.1 == 3) = false by rw [beq_eq_false_iff_ne]; omega, show (p.1 == 4) = false by rw [beq_eq_false_iff_ne]; omega]; rfl
  by_cases k2 : p.1 > 4
  · rw [dec_f k1, dec_t k2, show (p.1 == 2) = false by rw [beq_eq_false_iff_ne]; omega, show (p.1 == 3) = false by rw [beq_eq_false_iff_ne]; omega, show (p.1 == 4) = false by rw [beq_eq_false_iff_ne]; omega]; rfl
  rw [dec_f k1, dec_f k2]
  by_cases k3 : p.1 = 2
  · have e2 : (p.1 == 2) = true := by rw [beq_iff_eq]; exact k3
    have e4 : (p.1 == 4) = false := by rw [beq_eq_false_iff_ne]; omega
    simp only [e2, e4, cond_false, cond_true, Option.bind_some]
    rw [eH]
    cases sameT p.2.2.2.2.1 held with
    | false => rfl
    | true =>
      simp only [Option.bind_some, Bool.not_true, cond_false, Bool.true_and]
      rw [eL]
      cases sameL p.2.2.2.2.2.1 owes with
      | false => rfl
      | true => simp only [Option.bind_some, Bool.not_true, cond_false, e2, cond_true]
  by_cases k4 : p.1 = 3
  · have e2 : (p.1 == 2) = false := by rw [beq_eq_false_iff_ne]; omega
    have e3 : (p.1 == 3) = true := by rw [beq_iff_eq]; exact k4
    have e4 : (p.1 == 4) = false := by rw [beq_eq_false_iff_ne]; omega
    simp only [e2, e3, e4, cond_false, cond_true, Option.bind_some]
    rw [eH]
    cases sameT p.2.2.2.2.1 held with
    | false => rfl
    | true =>
      simp only [Option.bind_some, Bool.not_true, cond_false, e2, e3, cond_true]
      rw [hL (hg c1), Option.bind_some]
  · have e2 : (p.1 == 2) = false := by rw [beq_eq_false_iff_ne]; omega
    have e3 : (p.1 == 3) = false := by rw [beq_eq_false_iff_ne]; omega
    have e4 : (p.1 == 4) = true := by rw [beq_iff_eq]; omega
    simp only [e2, e3, e4, cond_false, cond_true, Option.bind_some]
    rw [eS]
    cases sameT p.2.2.2.2.1 sent with
    | false => rfl
    | true => simp only [Option.bind_some, Bool.not_true, cond_false, e2, e3, e4, cond_true]

/-! ### Good orders stay good -/
theorem cancelled_good {x : Ord} (hg : GoodO x) : GoodO (cancelled x) :=
  ⟨hg.id, hg.policy, hg.pos, hg.lines, trivial, by show (0 : Nat) ≤ 3; omega, trivial, hg.sent, fun k hk => by
    obtain ⟨n1, n2⟩ := hg.named k hk
    have e1 := T_nonneg k hg.held; have e3 := L_nonneg (k := k) hg.owes
    show T k [] + T k x.2.2.2.2.1 + L k [] < _ ∧ T k [] + T k x.2.2.2.2.1 + L k [] ≤ firstOf k x.2.2.1
    rw [T_nil, show L k [] = 0 from rfl]
    omega⟩
theorem shipped_good {x : Ord} (h : FewO x) (hg : GoodO x) : GoodO (shipped x) ∧ ∀ k, T k (shipL x.2.2.2.2.1 x.2.2.2.1) = T k x.2.2.2.2.1 + T k x.2.2.2.1 := by
  have hA := along_end hg h
  have hT : ∀ k, T k (shipL x.2.2.2.2.1 x.2.2.2.1) = T k x.2.2.2.2.1 + T k x.2.2.2.1 := fun k => by
    have := hA.T k
    rw [List.drop_length, T_nil] at this; omega
  refine ⟨⟨hg.id, hg.policy, hg.pos, hg.lines, hg.owes, hg.few, trivial, hA.ok, fun k hk => ?_⟩, hT⟩
  obtain ⟨n1, n2⟩ := hg.named k hk
  show T k [] + T k (shipL x.2.2.2.2.1 x.2.2.2.1) + L k x.2.2.2.2.2.1 < _ ∧ T k [] + T k (shipL x.2.2.2.2.1 x.2.2.2.1) + L k x.2.2.2.2.2.1 ≤ firstOf k x.2.2.1
  rw [T_nil, hT k]
  omega
theorem returned_good {x : Ord} (hg : GoodO x) : GoodO (returned x) :=
  ⟨hg.id, hg.policy, hg.pos, hg.lines, hg.owes, hg.few, hg.held, trivial, fun k hk => by
    obtain ⟨n1, n2⟩ := hg.named k hk
    have e2 := T_nonneg k hg.sent
    show T k x.2.2.2.1 + T k [] + L k x.2.2.2.2.2.1 < _ ∧ T k x.2.2.2.1 + T k [] + L k x.2.2.2.2.2.1 ≤ firstOf k x.2.2.1
    rw [T_nil]
    omega⟩

theorem wf_nilL {e : K} : WfE (.slice e) ([] : List (El e)) := ⟨Nat.zero_le _, fun x hx => by cases hx⟩
theorem cancelled_few {x : Ord} (h : FewO x) : FewO (cancelled x) := ⟨⟨h.wf.1, h.wf.2.1, h.wf.2.2.1, wf_nilL, h.wf.2.2.2.2.1, wf_nilL, trivial⟩, h.lines, Nat.zero_le _, h.sent, Nat.zero_le _⟩
theorem returned_few {x : Ord} (h : FewO x) : FewO (returned x) := ⟨⟨h.wf.1, h.wf.2.1, h.wf.2.2.1, h.wf.2.2.2.1, wf_nilL, h.wf.2.2.2.2.2.1, trivial⟩, h.lines, h.held, Nat.zero_le _, h.owes⟩
theorem shipped_few {x : Ord} (h : FewO x) (hg : GoodO x) (hl : x.2.2.2.2.1.length + x.2.2.2.1.length ≤ 100) : FewO (shipped x) := by
  have hA := along_end hg h
  have := hA.len
  exact ⟨⟨h.wf.1, h.wf.2.1, h.wf.2.2.1, wf_nilL, ⟨by show (shipL _ _).length ≤ 9223372036854775807; omega, hA.wf⟩, h.wf.2.2.2.2.2.1, trivial⟩, h.lines, Nat.zero_le _, by show (shipL _ _).length ≤ 100; omega, h.owes⟩

/-- What comes of it: the order as it was, or one of three. -/
theorem apply_cases (x : Ord) (p : Prg) : (applyO x p).1 = x ∧ (applyO x p).2.1 ≠ 0 ∨ (goodO x = true ∧ goodP 4 4 p = true ∧ p.2.1 = x.1 ∧ ((p.1 = 2 ∧ applyO x p = (cancelled x, (0, ()))) ∨ (p.1 = 3 ∧ applyO x p = (shipped x, (0, ()))) ∨ (p.1 = 4 ∧ applyO x p = (returned x, (0, ()))))) := by
  unfold applyO
  cases c1 : goodO x with
  | false => exact .inl ⟨rfl, by show (12 : Int) ≠ 0; decide⟩
  | true =>
  cases c2 : goodP 4 4 p with
  | false => exact .inl ⟨rfl, by show (1 : Int) ≠ 0; decide⟩
  | true =>
  cases c3 : (p.2.1 != x.1) with
  | true => exact .inl ⟨rfl, by show (1 : Int) ≠ 0; decide⟩
  | false =>
  have e3 : p.2.1 = x.1 := by simpa using c3
  simp only [Bool.not_true, cond_false]
  by_cases k2 : p.1 = 2
  · rw [show (p.1 == 2) = true by rw [beq_iff_eq]; exact k2]
    cases (sameT p.2.2.2.2.1 x.2.2.2.1 && sameL p.2.2.2.2.2.1 x.2.2.2.2.2.1) with
    | false => exact .inl ⟨rfl, by show (12 : Int) ≠ 0; decide⟩
    | true => exact .inr ⟨trivial, trivial, e3, .inl ⟨k2, rfl⟩⟩
  rw [show (p.1 == 2) = false by rw [beq_eq_false_iff_ne]; exact k2]
  by_cases k3 : p.1 = 3
  · rw [show (p.1 == 3) = true by rw [beq_iff_eq]; exact k3]
    cases sameT p.2.2.2.2.1 x.2.2.2.1 with
    | false => exact .inl ⟨rfl, by show (12 : Int) ≠ 0; decide⟩
    | true => exact .inr ⟨trivial, trivial, e3, .inr (.inl ⟨k3, rfl⟩)⟩
  rw [show (p.1 == 3) = false by rw [beq_eq_false_iff_ne]; exact k3]
  by_cases k4 : p.1 = 4
  · rw [show (p.1 == 4) = true by rw [beq_iff_eq]; exact k4]
    cases sameT p.2.2.2.2.1 x.2.2.2.2.1 with
    | false => exact .inl ⟨rfl, by show (12 : Int) ≠ 0; decide⟩
    | true => exact .inr ⟨trivial, trivial, e3, .inr (.inr ⟨k4, rfl⟩)⟩
  rw [show (p.1 == 4) = false by rw [beq_eq_false_iff_ne]; exact k4]
  exact .inl ⟨rfl, by show (1 : Int) ≠ 0; decide⟩

theorem fill_cases (x : Ord) (t : Tk) : (fillO x t).1 = x ∧ (fillO x t).2.1 ≠ 0 ∨ (goodO x = true ∧ tkBase 4 4 x.1 t = true ∧ ¬ firstOf t.2.1 x.2.2.2.2.2.1 < t.2.2.2.1 ∧ fillO x t = (filled x t, (0, ()))) := by
  unfold fillO
  cases c1 : goodO x with
  | false => exact .inl ⟨rfl, by show (12 : Int) ≠ 0; decide⟩
  | true =>
  cases c2 : tkBase 4 4 x.1 t with
  | false => exact .inl ⟨rfl, by show (1 : Int) ≠ 0; decide⟩
  | true =>
  cases c3 : decide (firstOf t.2.1 x.2.2.2.2.2.1 < t.2.2.2.1) with
  | true => exact .inl ⟨rfl, by show (12 : Int) ≠ 0; decide⟩
  | false => exact .inr ⟨rfl, rfl, by simpa using c3, rfl⟩
end Go.Proofs.Pure
