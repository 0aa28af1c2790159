/- What a program makes of a store; a good one stays good. -/
import Derived.Test.YtlmponhpepcllaaStoBase
set_option linter.unusedVariables false

/- What a program makes of a store: the program's way and the document's. -/
namespace Go.Proofs.Pure
open Go.Proofs.D Go.Proofs.F

theorem walk_foldW {α A X : Type} (g : A → α → A) (fin : A → X) : ∀ (l : List α) (i : Nat) (acc : A), walkL (fun _ x a => .inl (g a x)) fin i l acc = fin (l.foldl g acc)
  | [], _, _ => rfl
  | x :: l, i, acc => by rw [walkL]; exact walk_foldW g fin l (i + 1) (g acc x)

/-! ### One order more -/
theorem joinW_len (l : List Wt) (w : Wt) : (joinW l w).length ≤ l.length + 1 := by unfold joinW; split <;> simp
def joinL (id : Int) (ws : List Wt) (owes : List Ln) : List Wt := owes.foldl (fun ws x => joinW ws (id, (x.1, ()))) ws
def placeS (s : Sto) (p : Prg) : Sto × Int := match atS s.1 p.2.1 with | some _ => (s, 11) | none => if 32 ≤ s.1.length then (s, 4) else ((s.1 ++ [placed p], (joinL p.2.1 s.2.1 p.2.2.2.2.2.1, ())), 0)
theorem place_val3 (s : Sto) (p : Prg) (h : FewS s) (hp : Few p) (hb : placeB p = true) : store_place ((), ((), ())) p s.1 s.2.1 = some (((placeS s p).1, ((placeS s p).2, ())), ((), (s.2.1, ()))) := by
  have hl := h.len; have hw := h.waits; have ho := hp.owes
  unfold store_place placeS
  rw [at_val (s.1, (s.2.1, ())) p.2.1 (by show s.1.length < _; omega), Option.bind_some, ixI_ge]
  show (bif (atS s.1 p.2.1).isSome then _ else _) = _
  cases hk : atS s.1 p.2.1 with
  | some k => rfl
  | none =>
    simp only [Option.isSome_none, cond_false]
    by_cases c : 32 ≤ s.1.length
    · rw [dec_t (show (s.1.length : Int) ≥ 32 by omega), if_pos c]; rfl
    rw [dec_f (show ¬ (s.1.length : Int) ≥ 32 by omega), if_neg c, place_val p hp, hb]
    simp only [cond_true, cond_false, Option.bind_some, show ((0 : Int) != 0) = false by decide]
    rw [room_ok (by simp; omega)]
    have := loop_walk (step := store_place.l1) p.2.2.2.2.2.1 (fun i (ws : List Wt) => (((), ((), ((), (p.2.2.2.2.2.1, ((p.2.2.2.2.2.1.length : Int), (i : Int)))))), ((), (s.2.1, (((), (ws, ())), (p, (((), ((), ())), (s.1 ++ [placed p], ())))))))) (X := (Unit × Unit) × Unit × List Wt × (Unit × List Wt × Unit) × (Unit × Unit × Unit) × List Ord × Unit)
      (fun _ x ws => .inl (joinW ws (p.2.1, (x.1, ())))) (fun ws => (((), ()), ((), (s.2.1, (((), (ws, ())), (((), ((), ())), (s.1 ++ [placed p], ()))))))) (fun i ws => ws.length ≤ 1000 + i) s.2.1 (by omega) (by omega) (fun i x ws hx hi => by
      have hi2 := get_lt hx
      have hj := joinW_len ws (p.2.1, (x.1, ()))
      refine ⟨?_, fun _ q => by cases q; omega⟩
      unfold store_place.l1
      simp only [dec_t (show (i : Int) < (p.2.2.2.2.2.1.length : Int) by omega), cond_true]
      rw [nthK_get hx, join_val ws _ (by omega), Option.bind_some, succ_i64 (by omega)]) (fun ws _ => by
      unfold store_place.l1
      simp only [dec_f (show ¬ (p.2.2.2.2.2.1.length : Int) < (p.2.2.2.2.2.1.length : Int) by omega), cond_false])
    rw [show (((0 : Nat) : Int)) = 0 from rfl, walk_foldW (fun ws (x : Ln) => joinW ws (p.2.1, (x.1, ())))] at this
    rw [this, Option.bind_some]; rfl
theorem refplace_val3 (s : Sto) (p : Prg) (h : FewS s) (hp : Few p) (hb : placeB p = true) : pledgeref24_place s p = some ((placeS s p).1, ((placeS s p).2, ())) := by
  have hl := h.len; have hw := h.waits; have ho := hp.owes
  unfold pledgeref24_place placeS
  rw [refat_val s p.2.1 (by omega), Option.bind_some, ixI_ge]
  cases hk : atS s.1 p.2.1 with
  | some k => rfl
  | none =>
    simp only [Option.isSome_none, cond_false]
    by_cases c : 32 ≤ s.1.length
    · rw [dec_t (show (s.1.length : Int) ≥ 32 by omega), if_pos c]; rfl
    rw [dec_f (show ¬ (s.1.length : Int) ≥ 32 by omega), if_neg c, ref22Place_val p hp, hb]
    simp only [cond_true, cond_false, Option.bind_some]
    rw [room_ok (by omega), room_ok (by simp; omega)]
    have := loop_walk (step := pledgeref24_place.l1) p.2.2.2.2.2.1 (fun i (ws : List Wt) => (((), ((), ((), (i : Int)))), (p, (((), ((), ())), (((), (ws, ())), (s.1 ++ [placed p], ())))))) (X := (Unit × Unit) × (Unit × Unit × Unit) × (Unit × List Wt × Unit) × List Ord × Unit)
      (fun _ x ws => .inl (joinW ws (p.2.1, (x.1, ())))) (fun ws => (((), ()), (((), ((), ())), (((), (ws, ())), (s.1 ++ [placed p], ()))))) (fun i ws => ws.length ≤ 1000 + i) s.2.1 (by omega) (by omega) (fun i x ws hx hi => by
      have hi2 := get_lt hx
      have hj := joinW_len ws (p.2.1, (x.1, ()))
      refine ⟨?_, fun _ q => by cases q; omega⟩
      unfold pledgeref24_place.l1
      simp only [dec_t (show (i : Int) < (p.2.2.2.2.2.1.length : Int) by omega), cond_true]
      rw [nthK_get hx, refjoin_val ws _ (by omega), Option.bind_some, succ_i64 (by omega)]) (fun ws _ => by
      unfold pledgeref24_place.l1
      simp only [dec_f (show ¬ (p.2.2.2.2.2.1.length : Int) < (p.2.2.2.2.2.1.length : Int) by omega), cond_false])
    rw [show (((0 : Nat) : Int)) = 0 from rfl, walk_foldW (fun ws (x : Ln) => joinW ws (p.2.1, (x.1, ())))] at this
    rw [this, Option.bind_some]; rfl

/-! ### An order in its place -/
theorem ixF_id (id : Int) : ∀ (os : List Ord) (i : Nat), ixF (isId id) os i = ixF (fun n => n == id) (os.map (·.1)) i
  | [], _ => rfl
  | o :: os, i => by
    show (bif isId id o then some i else ixF (isId id) os (i + 1)) = (bif o.1 == id then some i else ixF (fun n => n == id) (os.map (·.1)) (i + 1))
    rw [ixF_id id os]; rfl
theorem at_ids {os os' : List Ord} (h : os.map (·.1) = os'.map (·.1)) (id : Int) : atS os id = atS os' id := by
  unfold atS ix
  rw [ixF_id, ixF_id, h]
theorem ids_set {os : List Ord} {k : Nat} {o : Ord} (h : (os.getD k ord0).1 = o.1) (hk : k < os.length) : (os.set k o).map (·.1) = os.map (·.1) := by
  apply List.ext_getElem?
  intro i
  rw [List.getElem?_map, List.getElem?_map, List.getElem?_set]
  by_cases e : k = i
  · subst e
    rw [if_pos rfl, if_pos hk, getD_at hk]
    simp only [Option.map_some, h]
  · rw [if_neg e]
theorem P1_set {os : List Ord} (hp : P1 os = true) {k : Nat} {o : Ord} (hk : k < os.length) (h : (os.getD k ord0).1 = o.1) (hg : goodO o = true) : P1 (os.set k o) = true := by
  rw [P1_iff]
  intro j x hx
  have hi := at_ids (ids_set h hk)
  rw [List.getElem?_set] at hx
  by_cases e : k = j
  · subst e
    rw [if_pos rfl, if_pos hk] at hx
    cases hx
    refine ⟨hg, ?_⟩
    rw [hi, ← h]
    exact ((P1_iff.1 hp) k _ (getD_at hk)).2
  · rw [if_neg e] at hx
    rw [hi]
    exact (P1_iff.1 hp) j x hx
theorem with_val3 (s : Sto) (q : Ord) (h : FewS s) (hp : P1 s.1 = true) {k : Nat} (hk : atS s.1 q.1 = some k) : pledgeref24_with s q = some (s.1.set k q, (s.2.1, ())) := by
  have hl := h.len
  unfold pledgeref24_with
  have := loop_walk (step := pledgeref24_with.l1) s.1 (fun i (acc : List Ord) => (((), ((), ((), ((), (i : Int))))), (s, (q, (((), ((), ())), (acc, ())))))) (X := (Unit × Unit × Unit) × Sto × (Unit × Unit × Unit) × List Ord × Unit) (fun _ o acc => .inl (acc ++ [bif o.1 == q.1 then q else o])) (fun acc => (((), ((), ())), (s, (((), ((), ())), (acc, ()))))) (fun i acc => acc.length ≤ i) [] (by omega) (Nat.le_refl _) (fun i o acc hx hi => by
    have hi2 := get_lt hx
    refine ⟨?_, fun _ q => by cases q; simp; exact hi⟩
    unfold pledgeref24_with.l1
    simp only [dec_t (show (i : Int) < (s.1.length : Int) by omega), cond_true]
    rw [nthK_get hx]
    cases o.1 == q.1 with
    | true => simp only [cond_true]; rw [room_ok (by simp; omega), succ_i64 (by omega)]
    | false => simp only [cond_false]; rw [nthK_get hx, room_ok (by simp; omega), succ_i64 (by omega)]) (fun acc _ => by
    unfold pledgeref24_with.l1
    simp only [dec_f (show ¬ (s.1.length : Int) < (s.1.length : Int) by omega), cond_false])
  rw [show (((0 : Nat) : Int)) = 0 from rfl, walk_gather (fun o : Ord => [bif o.1 == q.1 then q else o]), List.nil_append] at this
  rw [this, Option.bind_some]
  have e : s.1.flatMap (fun o : Ord => [bif o.1 == q.1 then q else o]) = s.1.set k q := by
    have e1 : s.1.flatMap (fun o : Ord => [bif o.1 == q.1 then q else o]) = s.1.map (fun o : Ord => bif o.1 == q.1 then q else o) := by
      generalize s.1 = os
      induction os with
      | nil => rfl
      | cons o os ih => rw [List.flatMap_cons, ih]; rfl
    rw [e1]
    apply List.ext_getElem?
    intro j
    rw [List.getElem?_map, List.getElem?_set]
    by_cases ej : k = j
    · subst ej
      rw [if_pos rfl, if_pos (at_lt hk), getD_at (at_lt hk), Option.map_some, at_id hk]
      simp
    · rw [if_neg ej]
      cases hx : s.1[j]? with
      | none => rfl
      | some o =>
        rw [Option.map_some]
        have := ((P1_iff.1 hp) j o hx).2
        have hne : (o.1 == q.1) = false := beq_eq_false_iff_ne.2 fun t => by
          rw [t, hk] at this; cases this; exact ej rfl
        rw [hne]; rfl
  rw [e]

/-! ### What comes -/
theorem ok_len {id lo : Int} : ∀ {l : List Tk}, okFrom id lo l → lo ≤ 15 → (l.length : Int) ≤ 15 - lo
  | [], _, h => by simp; omega
  | x :: l, ⟨h1, h2, h3⟩, h => by
    have hs := h1.sku; have hw := h1.ware
    have hk : key x ≤ 15 := by unfold key; omega
    have := ok_len h3 hk
    rw [List.length_cons]; omega
theorem good_len {o : Ord} (h : FewO o) (hg : goodO o = true) : o.2.2.2.1.length ≤ 16 ∧ o.2.2.2.2.1.length ≤ 16 ∧ o.2.2.2.2.2.1.length ≤ 3 := by
  have hG := good_of h hg
  have := ok_len hG.held (by omega); have := ok_len hG.sent (by omega)
  exact ⟨by omega, by omega, hG.few⟩
theorem leave_len (l : List Wt) (w : Wt) : (leaveW l w).length ≤ l.length := by
  unfold leaveW
  split
  · rw [List.length_append, List.length_take, List.length_drop]; omega
  · exact Nat.le_refl _
structure Fine (s : Sto) : Prop where
  fs : FewS s
  p1 : P1 s.1 = true
def fillStep (n i : Nat) (t : Tk) (a : Sto) : Sto ⊕ Int :=
  match atS a.1 t.1 with
  | none => .inr 12
  | some k => match ofW a.2.1 t.2.1 with
    | [] => .inr 12
    | f :: _ => bif f != t.1 then .inr 12 else bif decide (i + 1 < n) && decide (t.2.2.2.1 < owedAt a k t.2.1) then .inr 12 else
      bif (fillO (a.1.getD k ord0) t).2.1 != 0 then .inr (fillO (a.1.getD k ord0) t).2.1 else
      .inl (a.1.set k (fillO (a.1.getD k ord0) t).1, (bif firstOf t.2.1 (fillO (a.1.getD k ord0) t).1.2.2.2.2.2.1 == 0 then leaveW a.2.1 (t.1, (t.2.1, ())) else a.2.1, ()))
def fillK (n i : Nat) (t : Tk) (a : Sto) : Sto ⊕ (Sto ⊕ Int) := match fillStep n i t a with | .inl b => .inl b | .inr e => .inr (.inr e)
def fillAll (s : Sto) (l : List Tk) : Sto ⊕ Int := walkL (X := Sto ⊕ Int) (fillK l.length) (fun a => .inl a) 0 l s
def errOf (x : Sto ⊕ Int) : Int := match x with | .inl _ => 0 | .inr e => e
theorem fillO_id (o : Ord) (t : Tk) : (fillO o t).1.1 = o.1 := by
  unfold fillO
  cases goodO o <;> cases tkBase 4 4 o.1 t <;> cases decide (firstOf t.2.1 o.2.2.2.2.2.1 < t.2.2.2.1) <;> rfl
theorem fill_fine {n i : Nat} {t : Tk} {a b : Sto} (h : Fine a) (ht : WfE kTake t) (e : fillStep n i t a = .inl b) : Fine b := by
  unfold fillStep at e
  cases hk : atS a.1 t.1 with
  | none => rw [hk] at e; cases e
  | some k =>
    rw [hk] at e
    cases ho : ofW a.2.1 t.2.1 with
    | nil => rw [ho] at e; cases e
    | cons f r =>
      rw [ho] at e
      simp only [] at e
      cases q1 : f != t.1 with
      | true => rw [q1] at e; cases e
      | false =>
        rw [q1] at e
        cases q2 : decide (i + 1 < n) && decide (t.2.2.2.1 < owedAt a k t.2.1) with
        | true => rw [q2] at e; cases e
        | false =>
          rw [q2] at e
          cases q3 : (fillO (a.1.getD k ord0) t).2.1 != 0 with
          | true => rw [q3] at e; cases e
          | false =>
            rw [q3] at e
            simp only [cond_false] at e
            cases e
            have hlt := at_lt hk
            have hm := List.mem_of_getElem? (getD_at hlt)
            have hf := h.fs.few _ hm
            have hg := good_at h.p1 _ hm
            obtain ⟨s1, s2⟩ := fill_stays hf ht (by have := (good_len hf hg).1; omega)
            refine ⟨⟨by show (a.1.set k _).length ≤ 100; rw [List.length_set]; exact h.fs.len, fun o ho => ?_, ?_⟩, P1_set h.p1 hlt (fillO_id _ t).symm (s2 hg)⟩
            · have ho : o ∈ a.1.set k (fillO (a.1.getD k ord0) t).1 := ho
              rcases List.mem_or_eq_of_mem_set ho with q | q
              · exact h.fs.few o q
              · rw [q]; exact s1
            · have hl := leave_len a.2.1 (t.1, (t.2.1, ()))
              have := h.fs.waits
              show (bif _ then _ else _ : List Wt).length ≤ 1000
              cases firstOf t.2.1 (fillO (a.1.getD k ord0) t).1.2.2.2.2.2.1 == 0 with
              | true => simp only [cond_true]; omega
              | false => simp only [cond_false]; omega
end Go.Proofs.Pure

/- What comes, what is changed, what is made of a store. -/
namespace Go.Proofs.Pure
open Go.Proofs.D Go.Proofs.F

theorem fill_mid {A B : Type} (a : Sto) (k i n : Nat) (t : Tk) (L : A) (R : B) (hk : k < a.1.length) (hf : (a.1.getD k ord0).2.2.2.2.2.1.length < 1000000) (hn : n ≤ 1000) :
    (bif decide ((i : Int) < IntKind.i64.wrap ((n : Int) - 1)) then chk (decide (0 ≤ (k : Int)) && decide ((k : Int) < (a.1.length : Int))) (nthK a.1 (k : Int) fun e17 => (order_Owed e17 t.2.1).bind fun r18 => bif decide (t.2.2.2.1 < r18) then some (Sum.inr R) else some (Sum.inl L)) else some (Sum.inl L) : Option (A ⊕ B)) =
      some (bif decide (i + 1 < n) && decide (t.2.2.2.1 < owedAt a k t.2.1) then .inr R else .inl L) := by
  rw [wrap_i64 (by omega) (by omega)]
  by_cases c : i + 1 < n
  · rw [dec_t (show (i : Int) < (n : Int) - 1 by omega), dec_t c, dec_t (show (0 : Int) ≤ (k : Int) by omega), dec_t (show (k : Int) < (a.1.length : Int) by omega), chk_true (b := true && true) rfl, nthK_get (getD_at hk), owed_val _ _ hf, Option.bind_some]
    show (bif decide (t.2.2.2.1 < owedAt a k t.2.1) then _ else _) = _
    cases decide (t.2.2.2.1 < owedAt a k t.2.1) <;> rfl
  · rw [dec_f (show ¬ (i : Int) < (n : Int) - 1 by omega), dec_f c]; rfl
theorem fill_val3 (s : Sto) (l : List Tk) (h : Fine s) (hl : l.length ≤ 1000) (hw : ∀ t ∈ l, WfE kTake t) : ∃ r rest, store_fill ((), ((), ())) l s.1 s.2.1 = some ((r, (errOf (fillAll s l), ())), rest) ∧ ∀ b, fillAll s l = .inl b → r = b := by
  have := loop_walk (step := store_fill.l1) l (fun i (a : Sto) => ((l, ((), ((), (l, ((l.length : Int), (i : Int)))))), (a.1, (s.2.1, (((), (a.2.1, ())), (((), ((), ())), ())))))) (X := ((Unit × Unit) × List Ord × List Wt × (Unit × List Wt × Unit) × (Unit × Unit × Unit) × Unit) ⊕ ((Unit × Int) × List Ord × List Wt × (Unit × List Wt × Unit) × Unit))
    (fun i t a => match fillStep l.length i t a with | .inl b => .inl b | .inr e => .inr (.inr (((), e), (a.1, (s.2.1, (((), (a.2.1, ())), ())))))) (fun a => .inl (((), ()), (a.1, (s.2.1, (((), (a.2.1, ())), (((), ((), ())), ())))))) (fun _ a => Fine a) s (by omega) h (fun i t a hx ha => by
    have hi := get_lt hx
    have ht := hw t (get_mem hx)
    have hal := ha.fs.len; have haw := ha.fs.waits
    constructor
    · have hat : store_at (a.1, (a.2.1, ())) t.1 = some (ixI (atS a.1 t.1)) := at_val (a.1, (a.2.1, ())) t.1 (by show a.1.length < _; omega)
      unfold store_fill.l1 fillStep
      simp only [dec_t (show (i : Int) < (l.length : Int) by omega), cond_true]
      rw [nthK_get hx, hat, Option.bind_some, of_val a.2.1 t.2.1 (by omega), Option.bind_some, ixI_neg]
      cases hk : atS a.1 t.1 with
      | none => rfl
      | some k =>
        have hlt := at_lt hk
        have hm := List.mem_of_getElem? (getD_at hlt)
        have hf := ha.fs.few _ hm
        have hg := good_at ha.p1 _ hm
        have hfo := hf.owes
        obtain ⟨s1, s2⟩ := fill_stays hf ht (by have := (good_len hf hg).1; omega)
        have hfo1 := s1.owes
        simp only [Option.isNone_some, cond_false]
        rw [show ixI (some k) = (k : Int) from rfl]
        cases ho : ofW a.2.1 t.2.1 with
        | nil => rfl
        | cons f r =>
          rw [show ((((f :: r).length : Int) : Int) == 0) = false from beq_eq_false_iff_ne.2 (by simp; omega)]
          simp only [cond_false]
          rw [nthK_get0 (show (f :: r)[0]? = some f from rfl)]
          cases q1 : f != t.1 with
          | true => rfl
          | false =>
            simp only [cond_false]
            refine (congrArg (fun o => Option.bind o _) (fill_mid a k i l.length t _ _ hlt (by omega) hl)).trans ?_
            cases q2 : decide (i + 1 < l.length) && decide (t.2.2.2.1 < owedAt a k t.2.1) with
            | true => rfl
            | false =>
              simp only [cond_false, Option.bind_some]
              rw [dec_t (show (0 : Int) ≤ (k : Int) by omega), dec_t (show (k : Int) < (a.1.length : Int) by omega), chk_true (b := true && true) rfl, nthK_get (getD_at hlt), fill_val _ t hf ht, Option.bind_some]
              cases q3 : (fillO (a.1.getD k ord0) t).2.1 != 0 with
              | true => rfl
              | false =>
                simp only [cond_false]
                rw [chk_true (b := true && true) rfl]
                show nthN a.1 k _ = _
                rw [nthN_get (getD_at hlt), owed_val _ _ (by omega), Option.bind_some]
                cases firstOf t.2.1 (fillO (a.1.getD k ord0) t).1.2.2.2.2.2.1 == 0 with
                | true => simp only [cond_true]; rw [leave_val _ _ (by omega), Option.bind_some, succ_i64 (by omega)]
                | false => simp only [cond_false]; rw [succ_i64 (by omega)]
    · intro b hb
      cases q : fillStep l.length i t a with
      | inl c => rw [q] at hb; cases hb; exact fill_fine ha ht q
      | inr e => rw [q] at hb; cases hb) (fun a _ => by
    unfold store_fill.l1
    simp only [dec_f (show ¬ (l.length : Int) < (l.length : Int) by omega), cond_false])
  rw [show (((0 : Nat) : Int)) = 0 from rfl] at this
  have hp := walk_proj (fun r : ((Unit × Unit) × List Ord × List Wt × (Unit × List Wt × Unit) × (Unit × Unit × Unit) × Unit) ⊕ ((Unit × Int) × List Ord × List Wt × (Unit × List Wt × Unit) × Unit) => (match r with | .inl y => .inl (y.2.1, y.2.2.2.1.2) | .inr y => .inr y.1.2 : Sto ⊕ Int))
    (f' := fun i t a => match fillStep l.length i t a with | .inl b => .inl b | .inr e => .inr (.inr (((), e), (a.1, (s.2.1, (((), (a.2.1, ())), ()))))))
    (f := fillK l.length) (fin' := fun a : Sto => .inl (((), ()), (a.1, (s.2.1, (((), (a.2.1, ())), (((), ((), ())), ())))))) (fin := fun a : Sto => .inl a) (fun i t a => by
    unfold fillK
    cases fillStep l.length i t a with
    | inl b => exact .inl ⟨b, rfl, rfl⟩
    | inr e => exact .inr ⟨_, rfl, rfl⟩) (fun a => rfl) l 0 s
  generalize walkL (X := ((Unit × Unit) × List Ord × List Wt × (Unit × List Wt × Unit) × (Unit × Unit × Unit) × Unit) ⊕ ((Unit × Int) × List Ord × List Wt × (Unit × List Wt × Unit) × Unit)) (fun i t a => match fillStep l.length i t a with | .inl b => .inl b | .inr e => .inr (.inr (((), e), (a.1, (s.2.1, (((), (a.2.1, ())), ())))))) (fun a : Sto => .inl (((), ()), (a.1, (s.2.1, (((), (a.2.1, ())), (((), ((), ())), ())))))) 0 l s = W at this hp
  have hrun : store_fill ((), ((), ())) l s.1 s.2.1 = (match (generalizing := false) W with | .inl y29 => some (((y29.2.1, y29.2.2.2.1.2), (0, ())), (y29.2.1, (y29.2.2.1, ()))) | .inr y30 => some (((y30.2.1, y30.2.2.2.1.2), (y30.1.2, ())), (y30.2.1, (y30.2.2.1, ())))) := bindK this
  have hp : _ = fillAll s l := hp
  rw [hrun, ← hp]
  cases W with
  | inl y => exact ⟨_, _, rfl, fun b e => by cases e; rfl⟩
  | inr y => exact ⟨_, _, rfl, fun b e => by cases e⟩

theorem ref_mid {A B : Type} (o : Ord) (i n : Nat) (t : Tk) (L : A) (R : B) (hf : o.2.2.2.2.2.1.length < 1000000) (hn : n ≤ 1000) :
    (bif decide ((i : Int) < IntKind.i64.wrap ((n : Int) - 1)) then (pledgeref22_Owed o t.2.1).bind fun r18 => bif decide (t.2.2.2.1 < r18) then some (Sum.inr R) else some (Sum.inl L) else some (Sum.inl L) : Option (A ⊕ B)) =
      some (bif decide (i + 1 < n) && decide (t.2.2.2.1 < firstOf t.2.1 o.2.2.2.2.2.1) then .inr R else .inl L) := by
  rw [wrap_i64 (by omega) (by omega)]
  by_cases c : i + 1 < n
  · rw [dec_t (show (i : Int) < (n : Int) - 1 by omega), dec_t c, refOwed_val _ _ hf, Option.bind_some]
    cases decide (t.2.2.2.1 < firstOf t.2.1 o.2.2.2.2.2.1) <;> rfl
  · rw [dec_f (show ¬ (i : Int) < (n : Int) - 1 by omega), dec_f c]; rfl
theorem reffill_val3 (s : Sto) (l : List Tk) (h : Fine s) (hl : l.length ≤ 1000) (hw : ∀ t ∈ l, WfE kTake t) : pledgeref24_fill s l = some ((match fillAll s l with | .inl b => b | .inr _ => s), (errOf (fillAll s l), ())) := by
  have := loop_walk (step := pledgeref24_fill.l1) l (fun i (a : Sto) => ((l, ((), ((), ((), (i : Int))))), (s, (((), ((), ())), (a, ()))))) (X := ((Unit × Unit) × (Unit × Unit × Unit) × Sto × Unit) ⊕ ((Unit × Int) × Sto × Unit))
    (fun i t a => match fillStep l.length i t a with | .inl b => .inl b | .inr e => .inr (.inr (((), e), (s, ())))) (fun a => .inl (((), ()), (((), ((), ())), (a, ())))) (fun _ a => Fine a) s (by omega) h (fun i t a hx ha => by
    have hi := get_lt hx
    have ht := hw t (get_mem hx)
    have hal := ha.fs.len; have haw := ha.fs.waits
    constructor
    · unfold pledgeref24_fill.l1 fillStep
      simp only [dec_t (show (i : Int) < (l.length : Int) by omega), cond_true]
      rw [nthK_get hx, refof_val a.2.1 t.2.1 (by omega), Option.bind_some, refFind_val a t.1 ha.fs, Option.bind_some]
      unfold findS
      cases ho : ofW a.2.1 t.2.1 with
      | nil =>
        cases atS a.1 t.1 <;> rfl
      | cons f r =>
        rw [show ((((f :: r).length : Int) : Int) == 0) = false from beq_eq_false_iff_ne.2 (by simp; omega)]
        simp only [cond_false]
        rw [nthK_get0 (show (f :: r)[0]? = some f from rfl)]
        cases hk : atS a.1 t.1 with
        | none => cases f != t.1 <;> rfl
        | some k =>
          have hlt := at_lt hk
          have hm := List.mem_of_getElem? (getD_at hlt)
          have hf := ha.fs.few _ hm
          have hg := good_at ha.p1 _ hm
          have hfo := hf.owes
          obtain ⟨s1, s2⟩ := fill_stays hf ht (by have := (good_len hf hg).1; omega)
          have hfo1 := s1.owes
          cases q1 : f != t.1 with
          | true => rfl
          | false =>
            simp only [cond_false, Bool.not_true]
            refine (congrArg (fun o => Option.bind o _) (ref_mid (a.1.getD k ord0) i l.length t _ _ (by omega) hl)).trans ?_
            show (Option.bind (some (bif decide (i + 1 < l.length) && decide (t.2.2.2.1 < owedAt a k t.2.1) then _ else _)) _) = _
            cases q2 : decide (i + 1 < l.length) && decide (t.2.2.2.1 < owedAt a k t.2.1) with
            | true => rfl
            | false =>
              simp only [cond_false, Option.bind_some]
              rw [refFill_val _ t hf ht, Option.bind_some]
              cases q3 : (fillO (a.1.getD k ord0) t).2.1 != 0 with
              | true => rfl
              | false =>
                simp only [cond_false]
                have hid : (fillO (a.1.getD k ord0) t).1.1 = t.1 := (fillO_id _ t).trans (at_id hk)
                rw [with_val3 a _ ha.fs ha.p1 (k := k) (by rw [hid]; exact hk), Option.bind_some, refOwed_val _ _ (by omega), Option.bind_some]
                cases firstOf t.2.1 (fillO (a.1.getD k ord0) t).1.2.2.2.2.2.1 == 0 with
                | true => simp only [cond_true]; rw [refleave_val _ _ (by omega), Option.bind_some, succ_i64 (by omega)]
                | false => simp only [cond_false]; rw [succ_i64 (by omega)]
    · intro b hb
      cases q : fillStep l.length i t a with
      | inl c => rw [q] at hb; cases hb; exact fill_fine ha ht q
      | inr e => rw [q] at hb; cases hb) (fun a _ => by
    unfold pledgeref24_fill.l1
    simp only [dec_f (show ¬ (l.length : Int) < (l.length : Int) by omega), cond_false])
  rw [show (((0 : Nat) : Int)) = 0 from rfl] at this
  have hp := walk_proj (fun r : ((Unit × Unit) × (Unit × Unit × Unit) × Sto × Unit) ⊕ ((Unit × Int) × Sto × Unit) => (match r with | .inl y => .inl y.2.2.1 | .inr y => .inr y.1.2 : Sto ⊕ Int))
    (f' := fun i t a => match fillStep l.length i t a with | .inl b => .inl b | .inr e => .inr (.inr (((), e), (s, ()))))
    (f := fillK l.length) (fin' := fun a : Sto => .inl (((), ()), (((), ((), ())), (a, ())))) (fin := fun a : Sto => .inl a) (fun i t a => by
    unfold fillK
    cases fillStep l.length i t a with
    | inl b => exact .inl ⟨b, rfl, rfl⟩
    | inr e => exact .inr ⟨_, rfl, rfl⟩) (fun a => rfl) l 0 s
  have hs : ∀ (l' : List Tk) (i : Nat) (a : Sto) (y : (Unit × Int) × Sto × Unit), walkL (X := ((Unit × Unit) × (Unit × Unit × Unit) × Sto × Unit) ⊕ ((Unit × Int) × Sto × Unit)) (fun i t a => match fillStep l.length i t a with | .inl b => .inl b | .inr e => .inr (.inr (((), e), (s, ())))) (fun a : Sto => .inl (((), ()), (((), ((), ())), (a, ())))) i l' a = .inr y → y.2.1 = s := by
    intro l'
    induction l' with
    | nil => intro i a y e; cases e
    | cons x l' ih =>
      intro i a y e
      rw [walkL] at e
      cases q : fillStep l.length i x a with
      | inl b => rw [q] at e; exact ih (i + 1) b y e
      | inr e' => rw [q] at e; cases e; rfl
  have hs := hs l 0 s
  generalize walkL (X := ((Unit × Unit) × (Unit × Unit × Unit) × Sto × Unit) ⊕ ((Unit × Int) × Sto × Unit)) (fun i t a => match fillStep l.length i t a with | .inl b => .inl b | .inr e => .inr (.inr (((), e), (s, ())))) (fun a : Sto => .inl (((), ()), (((), ((), ())), (a, ())))) 0 l s = W at this hp hs
  have hrun : pledgeref24_fill s l = (match (generalizing := false) W with | .inl y22 => some (y22.2.2.1, (0, ())) | .inr y23 => some (y23.2.1, (y23.1.2, ()))) := bindK this
  have hp : _ = fillAll s l := hp
  rw [hrun, ← hp]
  cases W with
  | inl y => rfl
  | inr y =>
    have hs := hs y rfl
    show some (y.2.1, (y.1.2, ())) = _
    rw [hs]; rfl

/-! ### A program about an order that is there -/
def changeS (s : Sto) (p : Prg) : Sto × Int :=
  match atS s.1 p.2.1 with
  | none => (s, 10)
  | some k => bif (applyO (s.1.getD k ord0) p).2.1 != 0 then (s, (applyO (s.1.getD k ord0) p).2.1) else ((s.1.set k (applyO (s.1.getD k ord0) p).1, (bif p.1 == 2 then quitW s.2.1 p.2.1 else s.2.1, ())), 0)
theorem applyO_id (o : Ord) (p : Prg) : (applyO o p).1.1 = o.1 := by
  rcases apply_cases o p with ⟨e, _⟩ | ⟨_, _, _, ⟨_, e⟩ | ⟨_, e⟩ | ⟨_, e⟩⟩ <;> rw [e] <;> rfl
theorem change_val3 (s : Sto) (p : Prg) (h : FewS s) (hp : Few p) : ∃ rest, store_change ((), ((), ())) p s.1 s.2.1 = some (((changeS s p).1, ((changeS s p).2, ())), rest) := by
  have hl := h.len; have hw := h.waits
  unfold store_change changeS
  have hat : store_at (s.1, (s.2.1, (((), ((), ())) : Unit × Unit × Unit).2.2)) p.2.1 = some (ixI (atS s.1 p.2.1)) := at_val s p.2.1 (by omega)
  rw [hat, Option.bind_some, ixI_neg]
  cases hk : atS s.1 p.2.1 with
  | none => exact ⟨_, rfl⟩
  | some k =>
    have hlt := at_lt hk
    have hf := h.few _ (List.mem_of_getElem? (getD_at hlt))
    simp only [Option.isNone_some, cond_false]
    rw [show ixI (some k) = (k : Int) from rfl, dec_t (show (0 : Int) ≤ (k : Int) by omega), dec_t (show (k : Int) < (s.1.length : Int) by omega), chk_true (b := true && true) rfl, nthK_get (getD_at hlt), apply_val _ p hf hp, Option.bind_some]
    cases (applyO (s.1.getD k ord0) p).2.1 != 0 with
    | true => exact ⟨_, rfl⟩
    | false =>
      simp only [cond_false]
      rw [chk_true (b := true && true) rfl]
      refine ⟨?_, ?_⟩
      rotate_left
      · show nthN s.1 k _ = _
        rw [nthN_get (getD_at hlt)]
        cases p.1 == 2 with
        | true => simp only [cond_true]; rw [quit_val _ _ (by omega), Option.bind_some]
        | false => rfl
theorem refchange_val3 (s : Sto) (p : Prg) (h : Fine s) (hp : Few p) : ((pledgeref24_Find s p.2.1).bind fun r10 => bif !r10.2.1 then some (s, (10, ())) else (pledgeref22_Apply r10.1 p).bind fun r11 => bif (r11.2.1 : Int) != 0 then some (s, (r11.2.1, ())) else (pledgeref24_with s r11.1).bind fun r12 => bif (p.1 : Int) == 2 then (pledgeref23_Quit r12.2.1 p.2.1).bind fun r13 => some ((r12.1, (r13, r12.2.2)), (0, ())) else some (r12, (0, ())) : Option (Sto × Int × Unit)) = some ((changeS s p).1, ((changeS s p).2, ())) := by
  have hl := h.fs.len; have hw := h.fs.waits
  unfold changeS
  rw [refFind_val s p.2.1 h.fs, Option.bind_some]
  unfold findS
  cases hk : atS s.1 p.2.1 with
  | none => rfl
  | some k =>
    have hlt := at_lt hk
    have hf := h.fs.few _ (List.mem_of_getElem? (getD_at hlt))
    simp only [Bool.not_true, cond_false]
    rw [refApply_val _ p hf hp, Option.bind_some]
    cases (applyO (s.1.getD k ord0) p).2.1 != 0 with
    | true => rfl
    | false =>
      simp only [cond_false]
      rw [with_val3 s _ h.fs h.p1 (k := k) (by rw [applyO_id, at_id hk]; exact hk), Option.bind_some]
      cases p.1 == 2 with
      | true => simp only [cond_true]; rw [refquit_val _ _ (by omega), Option.bind_some]
      | false => rfl

/-! ### All programs -/
def applyS (s : Sto) (p : Prg) : Sto × Int :=
  bif !goodS s then (s, 12) else bif !goodP 4 4 p then (s, 1) else bif p.1 == 1 then placeS s p else bif p.1 == 5 then (match fillAll s p.2.2.2.2.1 with | .inl b => (b, 0) | .inr e => (s, e)) else bif p.1 == 6 then (s, 0) else changeS s p
theorem fine_of {s : Sto} (h : FewS s) (hg : goodS s = true) : Fine s := by
  unfold goodS at hg
  simp only [Bool.and_eq_true] at hg
  exact ⟨h, hg.2.1⟩
theorem place_err (s : Sto) (p : Prg) : (placeS s p).2 ≠ 0 → (placeS s p).1 = s := by
  unfold placeS
  cases atS s.1 p.2.1 with
  | some k => intro _; rfl
  | none =>
    simp only []
    split
    · intro _; rfl
    · intro q; exact absurd rfl q
theorem change_err (s : Sto) (p : Prg) : (changeS s p).2 ≠ 0 → (changeS s p).1 = s := by
  unfold changeS
  cases atS s.1 p.2.1 with
  | none => intro _; rfl
  | some k =>
    simp only []
    cases (applyO (s.1.getD k ord0) p).2.1 != 0 with
    | true => intro _; rfl
    | false => intro q; exact absurd rfl q
theorem fill_err (n i : Nat) (t : Tk) (a : Sto) {e : Int} (h : fillStep n i t a = .inr e) : e ≠ 0 := by
  unfold fillStep at h
  cases hk : atS a.1 t.1 with
  | none => rw [hk] at h; cases h; decide
  | some k =>
    rw [hk] at h
    cases ho : ofW a.2.1 t.2.1 with
    | nil => rw [ho] at h; cases h; decide
    | cons f r =>
      rw [ho] at h
      simp only [] at h
      cases q1 : f != t.1 with
      | true => rw [q1] at h; cases h; decide
      | false =>
        rw [q1] at h
        cases q2 : decide (i + 1 < n) && decide (t.2.2.2.1 < owedAt a k t.2.1) with
        | true => rw [q2] at h; cases h; decide
        | false =>
          rw [q2] at h
          cases q3 : (fillO (a.1.getD k ord0) t).2.1 != 0 with
          | true => rw [q3] at h; cases h; simpa using q3
          | false => rw [q3] at h; cases h
theorem fillAll_err (s : Sto) (l : List Tk) : ∀ e, fillAll s l = .inr e → e ≠ 0 := by
  unfold fillAll
  generalize l.length = n
  have : ∀ (l : List Tk) (i : Nat) (a : Sto) (e : Int), walkL (X := Sto ⊕ Int) (fillK n) (fun a => .inl a) i l a = .inr e → e ≠ 0 := by
    intro l
    induction l with
    | nil => intro i a e h; cases h
    | cons t l ih =>
      intro i a e h
      rw [walkL] at h
      unfold fillK at h
      cases q : fillStep n i t a with
      | inl b => rw [q] at h; exact ih (i + 1) b e h
      | inr e' => rw [q] at h; cases h; exact fill_err n i t a q
  exact this l 0 s
theorem few_takes {p : Prg} (hp : Few p) : ∀ t ∈ p.2.2.2.2.1, WfE kTake t := hp.w2
theorem placeB_of {p : Prg} (h1 : (p.1 == 1) = true) (h2 : goodP 4 4 p = true) : placeB p = true := by unfold placeB; rw [h1, h2]; rfl
theorem apply_val3 (s : Sto) (p : Prg) (h : FewS s) (hp : Few p) : store_Apply s p = some ((applyS s p).1, ((applyS s p).2, ())) := by
  have ht := hp.takes
  unfold store_Apply applyS
  rw [copyS_val s h, Option.bind_some, storeGood_val s h, Option.bind_some]
  cases hg : goodS s with
  | false => rfl
  | true =>
    simp only [Bool.not_true, cond_false]
    rw [progGood_val 4 4 p hp, Option.bind_some]
    cases hq : goodP 4 4 p with
    | false => rfl
    | true =>
      simp only [Bool.not_true, cond_false, Option.bind_some]
      cases h1 : p.1 == 1 with
      | true =>
        simp only [cond_true]
        rw [place_val3 s p h hp (placeB_of h1 hq)]
        simp only [Option.bind_some]
        cases q : (placeS s p).2 != 0 with
        | true =>
          have := place_err s p (by simpa using q)
          show some (s, ((placeS s p).2, ())) = _
          rw [this]
        | false =>
          have : (placeS s p).2 = 0 := by simpa using q
          show some ((placeS s p).1, ((0 : Int), ())) = _
          rw [this]
      | false =>
        simp only [cond_false]
        cases h5 : p.1 == 5 with
        | true =>
          simp only [cond_true]
          obtain ⟨r, rest, e1, e2⟩ := fill_val3 s p.2.2.2.2.1 (fine_of h hg) (by omega) (few_takes hp)
          rw [e1]
          simp only [Option.bind_some]
          cases q : fillAll s p.2.2.2.2.1 with
          | inl b => rw [e2 b q]; rfl
          | inr e =>
            have := fillAll_err s _ e q
            show (bif (e != 0) then _ else _) = _
            rw [show (e != 0) = true by simpa using this]; rfl
        | false =>
          simp only [cond_false]
          cases h6 : p.1 == 6 with
          | true => rfl
          | false =>
            simp only [cond_false]
            obtain ⟨rest, e1⟩ := change_val3 s p h hp
            rw [e1]
            simp only [Option.bind_some]
            cases q : (changeS s p).2 != 0 with
            | true =>
              have := change_err s p (by simpa using q)
              show some (s, ((changeS s p).2, ())) = _
              rw [this]
            | false =>
              have : (changeS s p).2 = 0 := by simpa using q
              show some ((changeS s p).1, ((0 : Int), ())) = _
              rw [this]
theorem refapply_val3 (s : Sto) (p : Prg) (h : FewS s) (hp : Few p) : pledgeref24_Apply s p = some ((applyS s p).1, ((applyS s p).2, ())) := by
  have ht := hp.takes
  unfold pledgeref24_Apply applyS
  rw [refGood_val s h, Option.bind_some]
  cases hg : goodS s with
  | false => rfl
  | true =>
    simp only [Bool.not_true, cond_false]
    rw [refGoodP_val 4 4 p hp, Option.bind_some]
    cases hq : goodP 4 4 p with
    | false => rfl
    | true =>
      simp only [Bool.not_true, cond_false]
      cases h1 : p.1 == 1 with
      | true => simp only [cond_true]; rw [refplace_val3 s p h hp (placeB_of h1 hq)]; rfl
      | false =>
        simp only [cond_false]
        cases h5 : p.1 == 5 with
        | true =>
          simp only [cond_true]
          rw [reffill_val3 s p.2.2.2.2.1 (fine_of h hg) (by omega) (few_takes hp)]
          simp only [Option.bind_some]
          cases q : fillAll s p.2.2.2.2.1 <;> rfl
        | false =>
          simp only [cond_false]
          cases h6 : p.1 == 6 with
          | true => rfl
          | false => exact refchange_val3 s p (fine_of h hg) hp
end Go.Proofs.Pure

/- A good store stays good. -/
namespace Go.Proofs.Pure
open Go.Proofs.D Go.Proofs.F

structure GoodSt (s : Sto) : Prop where
  few : s.1.length ≤ 32
  fo : ∀ o ∈ s.1, FewO o
  p1 : P1 s.1 = true
  nd : s.2.1.Nodup
  mem : ∀ w, w ∈ s.2.1 ↔ w ∈ oweL s.1
theorem GoodSt.own {s : Sto} (h : GoodSt s) : (oweL s.1).Nodup := owe_nodup h.fo (good_at h.p1) (ids_nodup h.p1)
theorem oweL_len : ∀ {os : List Ord}, (∀ o ∈ os, o.2.2.2.2.2.1.length ≤ 3) → (oweL os).length ≤ 3 * os.length
  | [], _ => by simp [oweL]
  | o :: os, h => by
    show (oweO o ++ oweL os).length ≤ 3 * (os.length + 1)
    have h1 := h o List.mem_cons_self
    have h2 := oweL_len fun x hx => h x (List.mem_cons_of_mem _ hx)
    unfold oweO
    rw [List.length_append, List.length_map]; omega
theorem GoodSt.fs {s : Sto} (h : GoodSt s) : FewS s := by
  have hl := h.few
  have h1 := nodup_len h.nd fun w hw => (h.mem w).1 hw
  have h2 := oweL_len (os := s.1) fun o ho => (good_len (h.fo o ho) (good_at h.p1 o ho)).2.2
  exact ⟨by omega, h.fo, by omega⟩
theorem GoodSt.fine {s : Sto} (h : GoodSt s) : Fine s := ⟨h.fs, h.p1⟩
theorem goodSt_of {s : Sto} (h : FewS s) (hg : goodS s = true) : GoodSt s := by
  unfold goodS waitsB at hg
  simp only [Bool.and_eq_true, decide_eq_true_eq] at hg
  obtain ⟨h1, h2, ⟨h3, h4⟩, h5⟩ := hg
  exact ⟨h1, h.few, h2, h4, fun w => ⟨h3 w, nodup_back h4 h3 (by omega) w⟩⟩
theorem goodSt_to {s : Sto} (h : GoodSt s) : goodS s = true := by
  unfold goodS waitsB
  simp only [Bool.and_eq_true, decide_eq_true_eq]
  have h1 := nodup_len h.nd fun w hw => (h.mem w).1 hw
  have h2 := nodup_len h.own fun w hw => (h.mem w).2 hw
  exact ⟨h.few, h.p1, ⟨fun w hw => (h.mem w).1 hw, h.nd⟩, by omega⟩

/-! ### One order more -/
theorem at_append {os : List Ord} {id : Int} {k : Nat} (h : atS os id = some k) (r : List Ord) : atS (os ++ r) id = some k := by
  obtain ⟨⟨x, hx, hp⟩, hb⟩ := ix_iff.1 h
  have hk := get_lt hx
  refine ix_iff.2 ⟨⟨x, by rw [List.getElem?_append_left hk]; exact hx, hp⟩, fun j hj y hy => hb j hj y ?_⟩
  rwa [List.getElem?_append_left (by omega)] at hy
theorem at_new {os : List Ord} {o : Ord} (h : atS os o.1 = none) : atS (os ++ [o]) o.1 = some os.length := by
  refine ix_iff.2 ⟨⟨o, by simp, by simp [isId]⟩, fun j hj y hy => ?_⟩
  rw [List.getElem?_append_left hj] at hy
  exact ix_none.1 h y (get_mem hy)
theorem join_all (id : Int) : ∀ (owes : List Ln) (ws : List Wt), (owes.map fun x => ((id, (x.1, ())) : Wt)).Nodup → (∀ x ∈ owes, ((id, (x.1, ())) : Wt) ∉ ws) → joinL id ws owes = ws ++ owes.map fun x => (id, (x.1, ()))
  | [], ws, _, _ => by simp [joinL]
  | x :: owes, ws, hn, hw => by
    have hn := List.nodup_cons.1 hn
    show joinL id (joinW ws (id, (x.1, ()))) owes = _
    have e : joinW ws (id, (x.1, ())) = ws ++ [(id, (x.1, ()))] := by unfold joinW; rw [if_neg (hw x List.mem_cons_self)]
    rw [e, join_all id owes _ hn.2 (fun y hy q => by
      rcases List.mem_append.1 q with q | q
      · exact hw y (List.mem_cons_of_mem _ hy) q
      · rw [List.mem_singleton] at q
        exact hn.1 (List.mem_map.2 ⟨y, hy, q⟩)), List.append_assoc]
    rfl
theorem place_good {s : Sto} {p : Prg} (h : GoodSt s) (hp : Few p) (hb : placeB p = true) : GoodSt (placeS s p).1 := by
  unfold placeS
  cases hk : atS s.1 p.2.1 with
  | some k => exact h
  | none =>
    simp only []
    split
    · exact h
    rename_i c
    have hpl : p.1 = 1 ∧ goodP 4 4 p = true := by
      unfold placeB at hb
      simp only [Bool.and_eq_true, beq_iff_eq] at hb
      exact hb
    have hg := placed_good (goodKind_place hpl.1 hpl.2) hp
    have hf := wf_placed hp
    have hG := good_of hf hg
    have hk' : atS s.1 (placed p).1 = none := hk
    have hnew : ∀ o ∈ s.1, o.1 ≠ p.2.1 := fun o ho q => by
      have := ix_none.1 hk o ho
      unfold isId at this
      simp [q] at this
    have hnd := (owe_nodup_one p.2.1 hG.owes).1
    have hnot : ∀ x ∈ p.2.2.2.2.2.1, ((p.2.1, (x.1, ())) : Wt) ∉ s.2.1 := fun x _ q => by
      obtain ⟨o, ho, e, _⟩ := mem_owe.1 ((h.mem _).1 q)
      exact hnew o ho e
    have hj : joinL p.2.1 s.2.1 p.2.2.2.2.2.1 = s.2.1 ++ oweO (placed p) := join_all p.2.1 _ _ hnd hnot
    have hown : oweL (s.1 ++ [placed p]) = oweL s.1 ++ oweO (placed p) := by unfold oweL; rw [List.flatMap_append]; simp
    refine ⟨by show (s.1 ++ [placed p]).length ≤ 32; rw [List.length_append]; simp; omega, fun o ho => ?_, P1_iff.2 fun k o ho => ?_, ?_, fun w => ?_⟩
    · have ho : o ∈ s.1 ++ [placed p] := ho
      rcases List.mem_append.1 ho with q | q
      · exact h.fo o q
      · rw [List.mem_singleton.1 q]; exact hf
    · have ho : (s.1 ++ [placed p])[k]? = some o := ho
      show goodO o = true ∧ atS (s.1 ++ [placed p]) o.1 = some k
      by_cases c2 : k < s.1.length
      · rw [List.getElem?_append_left c2] at ho
        obtain ⟨a, b⟩ := (P1_iff.1 h.p1) k o ho
        exact ⟨a, at_append b _⟩
      · rw [List.getElem?_append_right (by omega)] at ho
        have : k = s.1.length := by have := get_lt ho; simp at this; omega
        subst this
        simp at ho
        subst ho
        exact ⟨hg, at_new hk'⟩
    · show (joinL p.2.1 s.2.1 p.2.2.2.2.2.1).Nodup
      rw [hj]
      refine List.nodup_append.2 ⟨h.nd, hnd, fun a ha b hb' e => ?_⟩
      subst e
      obtain ⟨x, hx, e⟩ := List.mem_map.1 hb'
      rw [← e] at ha
      exact hnot x hx ha
    · show w ∈ joinL p.2.1 s.2.1 p.2.2.2.2.2.1 ↔ w ∈ oweL (s.1 ++ [placed p])
      rw [hj, hown, List.mem_append, List.mem_append, h.mem]

/-! ### An order that turns -/
theorem mem_owe_set {os : List Ord} (hp : P1 os = true) {k : Nat} (hk : k < os.length) {o : Ord} (e : (os.getD k ord0).1 = o.1) (w : Wt) : w ∈ oweL (os.set k o) ↔ if w.1 = o.1 then ∃ x ∈ o.2.2.2.2.2.1, x.1 = w.2.1 else w ∈ oweL os := by
  rw [mem_owe]
  by_cases c : w.1 = o.1
  · rw [if_pos c]
    constructor
    · rintro ⟨x, hx, e1, hy⟩
      rcases List.mem_or_eq_of_mem_set hx with q | q
      · -- an old one of the same number is the one that has gone
        obtain ⟨j, hj, ej⟩ := List.getElem_of_mem hx
        rw [List.getElem_set] at ej
        by_cases ekj : k = j
        · rw [if_pos ekj] at ej; rw [ej]; exact hy
        · rw [if_neg ekj] at ej
          exfalso
          have hj' : j < os.length := by rw [List.length_set] at hj; exact hj
          have h1 := ((P1_iff.1 hp) j _ (List.getElem?_eq_getElem hj')).2
          have h2 := ((P1_iff.1 hp) k _ (getD_at hk)).2
          rw [ej, e1, c, ← e, h2] at h1
          cases h1
          exact ekj rfl
      · rw [← q]; exact hy
    · intro hy
      exact ⟨o, List.mem_set hk _, c.symm, hy⟩
  · rw [if_neg c, mem_owe]
    constructor
    · rintro ⟨x, hx, e1, hy⟩
      rcases List.mem_or_eq_of_mem_set hx with q | q
      · exact ⟨x, q, e1, hy⟩
      · rw [q] at e1; exact absurd e1.symm c
    · rintro ⟨x, hx, e1, hy⟩
      obtain ⟨j, hj, ej⟩ := List.getElem_of_mem hx
      have hkj : k ≠ j := fun q => by
        subst q
        have := getD_at hk
        rw [List.getElem?_eq_getElem hk, ej] at this
        cases this
        exact c (e1.symm.trans e)
      refine ⟨x, ?_, e1, hy⟩
      have : (os.set k o)[j]? = some x := by rw [List.getElem?_set, if_neg hkj, List.getElem?_eq_getElem hj, ej]
      exact List.mem_of_getElem? this
theorem mem_owe_at {os : List Ord} (hp : P1 os = true) {k : Nat} (hk : k < os.length) {w : Wt} (e : w.1 = (os.getD k ord0).1) : w ∈ oweL os ↔ ∃ x ∈ (os.getD k ord0).2.2.2.2.2.1, x.1 = w.2.1 := by
  have hm := List.mem_of_getElem? (getD_at hk)
  rw [mem_owe]
  constructor
  · rintro ⟨o, ho, e1, hy⟩
    have := own_id hp ho hm (e1.trans e)
    rw [this] at hy; exact hy
  · intro hy
    exact ⟨_, hm, e.symm, hy⟩
theorem has_first {l : List Ln} {lo a : Int} (h : lnFrom lo l) : (∃ x ∈ l, x.1 = a) ↔ firstOf a l ≠ 0 := by
  constructor
  · rintro ⟨x, hx, e⟩
    rw [first_mem h x hx e]
    have : ∀ {l : List Ln} {lo : Int}, lnFrom lo l → ∀ x ∈ l, 1 ≤ x.2.1 := by
      intro l
      induction l with
      | nil => intro lo _ x hx; cases hx
      | cons y l ih =>
        intro lo ⟨_, _, h3, h4⟩ x hx
        rcases List.mem_cons.1 hx with e | e
        · rw [e]; exact h3
        · exact ih h4 x e
    have := this h x hx
    omega
  · intro q
    refine Decidable.byContradiction fun t => q (first_zero t)
theorem leave_erase (w : Wt) : ∀ (l : List Wt) (i : Nat), (match ixF (isW w) l i with | some k => l.take (k - i) ++ l.drop (k - i + 1) | none => l) = l.erase w
  | [], i => rfl
  | x :: l, i => by
    unfold ixF isW
    by_cases e : w = x
    · subst e
      rw [dec_t rfl]
      simp
    · rw [dec_f e]
      simp only [cond_false]
      have ih := leave_erase w l (i + 1)
      rw [List.erase_cons_tail (by simpa using fun q : x = w => e q.symm), ← ih]
      cases hq : ixF (fun x => decide (w = x)) l (i + 1) with
      | none =>
        have hq' : ixF (isW w) l (i + 1) = none := hq
        rw [hq']
      | some k =>
        have hq' : ixF (isW w) l (i + 1) = some k := hq
        have := ixF_ge hq'
        rw [hq']
        simp only []
        rw [show k - i = (k - (i + 1)) + 1 by omega, List.take_succ_cons, List.drop_succ_cons, List.cons_append]
theorem leave_eq (l : List Wt) (w : Wt) : leaveW l w = l.erase w := by
  rw [← leave_erase w l 0]
  unfold leaveW ix
  cases ixF (isW w) l 0 <;> rfl

theorem step_inl {n i : Nat} {t : Tk} {a b : Sto} (h : Fine a) (ht : WfE kTake t) (e : fillStep n i t a = .inl b) : ∃ k r, atS a.1 t.1 = some k ∧ ofW a.2.1 t.2.1 = t.1 :: r ∧ (i + 1 < n → owedAt a k t.2.1 ≤ t.2.2.2.1) ∧ Valid (a.1.getD k ord0).1 t ∧ t.2.2.2.1 ≤ owedAt a k t.2.1 ∧
    b = (a.1.set k (filled (a.1.getD k ord0) t), (bif firstOf t.2.1 (filled (a.1.getD k ord0) t).2.2.2.2.2.1 == 0 then leaveW a.2.1 (t.1, (t.2.1, ())) else a.2.1, ())) := by
  unfold fillStep at e
  cases hk : atS a.1 t.1 with
  | none => rw [hk] at e; cases e
  | some k =>
    rw [hk] at e
    cases ho : ofW a.2.1 t.2.1 with
    | nil => rw [ho] at e; cases e
    | cons f r =>
      rw [ho] at e
      simp only [] at e
      cases q1 : f != t.1 with
      | true => rw [q1] at e; cases e
      | false =>
        rw [q1] at e
        cases q2 : decide (i + 1 < n) && decide (t.2.2.2.1 < owedAt a k t.2.1) with
        | true => rw [q2] at e; cases e
        | false =>
          rw [q2] at e
          have hf : f = t.1 := by simpa using q1
          subst hf
          rcases fill_cases (a.1.getD k ord0) t with ⟨_, q⟩ | ⟨g1, g2, g3, g4⟩
          · rw [show ((fillO (a.1.getD k ord0) t).2.1 != 0) = true by simpa using q] at e
            cases e
          · rw [g4] at e
            simp only [show ((0 : Int) != 0) = false by decide, cond_false] at e
            refine ⟨k, r, rfl, rfl, fun c => ?_, (base_valid ht).1 g2, by unfold owedAt; omega, ?_⟩
            · rw [dec_t c] at q2
              simp at q2
              exact q2
            · cases e; rfl
theorem fill_good {n i : Nat} {t : Tk} {a b : Sto} (h : GoodSt a) (ht : WfE kTake t) (e : fillStep n i t a = .inl b) : GoodSt b := by
  have hfin := fill_fine h.fine ht e
  obtain ⟨k, r, hk, _, _, hv, hq, eb⟩ := step_inl h.fine ht e
  have hlt := at_lt hk
  have hid := at_id hk
  have hm := List.mem_of_getElem? (getD_at hlt)
  have hf := h.fo _ hm
  have hG := good_of hf (good_at h.p1 _ hm)
  obtain ⟨f1, _, f3⟩ := filled_good hf hG hv (by unfold owedAt at hq; omega)
  have hqty := hv.qty
  have hb1 : b.1 = a.1.set k (filled (a.1.getD k ord0) t) := by rw [eb]
  have hb2 : b.2.1 = (bif firstOf t.2.1 (filled (a.1.getD k ord0) t).2.2.2.2.2.1 == 0 then leaveW a.2.1 (t.1, (t.2.1, ())) else a.2.1) := by rw [eb]
  have hnd : b.2.1.Nodup := by
    rw [hb2]
    cases firstOf t.2.1 (filled (a.1.getD k ord0) t).2.2.2.2.2.1 == 0 with
    | true => simp only [cond_true]; rw [leave_eq]; exact h.nd.erase _
    | false => exact h.nd
  refine ⟨by rw [hb1, List.length_set]; exact h.few, hfin.fs.few, hfin.p1, hnd, fun w => ?_⟩
  rw [hb1, mem_owe_set h.p1 hlt (o := filled (a.1.getD k ord0) t) rfl w, hb2]
  have e0 : (filled (a.1.getD k ord0) t).1 = t.1 := hid
  rw [e0]
  have hff := f3 w.2.1
  have hfs := f3 t.2.1
  rw [if_pos rfl] at hfs
  have hnn := first_nonneg (k := t.2.1) f1.owes
  have hnn : 0 ≤ firstOf t.2.1 (lessL t.2.1 t.2.2.2.1 (a.1.getD k ord0).2.2.2.2.2.1) := hnn
  by_cases c : w.1 = t.1
  · rw [if_pos c, has_first f1.owes]
    have hold : w ∈ a.2.1 ↔ firstOf w.2.1 (a.1.getD k ord0).2.2.2.2.2.1 ≠ 0 := by rw [h.mem w, mem_owe_at h.p1 hlt (c.trans hid.symm), has_first hG.owes]
    have hnew : firstOf w.2.1 (filled (a.1.getD k ord0) t).2.2.2.2.2.1 = firstOf w.2.1 (a.1.getD k ord0).2.2.2.2.2.1 - (if t.2.1 = w.2.1 then t.2.2.2.1 else 0) := hff
    cases z : firstOf t.2.1 (filled (a.1.getD k ord0) t).2.2.2.2.2.1 == 0 with
    | true =>
      have z : firstOf t.2.1 (filled (a.1.getD k ord0) t).2.2.2.2.2.1 = 0 := by simpa using z
      simp only [cond_true]
      rw [leave_eq, h.nd.mem_erase_iff]
      by_cases c2 : t.2.1 = w.2.1
      · have : w = (t.1, (t.2.1, ())) := by
          obtain ⟨w1, w2, _⟩ := w
          have c : w1 = t.1 := c
          have c2 : t.2.1 = w2 := c2
          rw [c, c2]
        rw [c2] at z
        rw [this]
        constructor
        · intro q; exact absurd rfl q.1
        · intro q
          have q : firstOf t.2.1 (filled (a.1.getD k ord0) t).2.2.2.2.2.1 ≠ 0 := q
          rw [c2] at q; exact absurd z q
      · rw [if_neg c2, Int.sub_zero] at hnew
        rw [hnew, hold]
        constructor
        · intro q; exact q.2
        · intro q
          exact ⟨fun t' => c2 (by rw [t']), q⟩
    | false =>
      have z : firstOf t.2.1 (filled (a.1.getD k ord0) t).2.2.2.2.2.1 ≠ 0 := by simpa using z
      simp only [cond_false]
      rw [hold, hnew]
      by_cases c2 : t.2.1 = w.2.1
      · rw [if_pos c2, ← c2]
        have z : firstOf t.2.1 (lessL t.2.1 t.2.2.2.1 (a.1.getD k ord0).2.2.2.2.2.1) ≠ 0 := z
        constructor
        · intro _; rw [← hfs]; exact z
        · intro _; omega
      · rw [if_neg c2, Int.sub_zero]
  · rw [if_neg c, ← h.mem w]
    cases firstOf t.2.1 (filled (a.1.getD k ord0) t).2.2.2.2.2.1 == 0 with
    | true =>
      simp only [cond_true]
      rw [leave_eq, h.nd.mem_erase_iff]
      constructor
      · intro q; exact q.2
      · intro q; exact ⟨fun t' => c (by rw [t']), q⟩
    | false => exact Iff.rfl
theorem fillAll_good {s b : Sto} {l : List Tk} (h : GoodSt s) (hw : ∀ t ∈ l, WfE kTake t) (e : fillAll s l = .inl b) : GoodSt b := by
  unfold fillAll at e
  generalize l.length = n at e
  have : ∀ (l : List Tk) (i : Nat) (a b : Sto), (∀ t ∈ l, WfE kTake t) → GoodSt a → walkL (X := Sto ⊕ Int) (fillK n) (fun a => .inl a) i l a = .inl b → GoodSt b := by
    intro l
    induction l with
    | nil => intro i a b _ h e; cases e; exact h
    | cons t l ih =>
      intro i a b hw h e
      rw [walkL] at e
      unfold fillK at e
      cases q : fillStep n i t a with
      | inl c => rw [q] at e; exact ih (i + 1) c b (fun x hx => hw x (List.mem_cons_of_mem _ hx)) (fill_good h (hw t List.mem_cons_self) q) e
      | inr e' => rw [q] at e; cases e
  exact this l 0 s b hw h e
theorem change_good {s : Sto} {p : Prg} (h : GoodSt s) : GoodSt (changeS s p).1 := by
  unfold changeS
  cases hk : atS s.1 p.2.1 with
  | none => exact h
  | some k =>
    have hlt := at_lt hk
    have hid := at_id hk
    have hm := List.mem_of_getElem? (getD_at hlt)
    have hf := h.fo _ hm
    have hg := good_at h.p1 _ hm
    have hln := good_len hf hg
    simp only []
    rcases apply_cases (s.1.getD k ord0) p with ⟨_, q⟩ | ⟨_, _, _, q⟩
    · rw [show ((applyO (s.1.getD k ord0) p).2.1 != 0) = true by simpa using q]; exact h
    have hst := apply_stays (p := p) hf (by omega) (by omega)
    have hgo := hst.2 hg
    have hP := P1_set h.p1 hlt (applyO_id _ p).symm hgo
    have hset := fun w => mem_owe_set h.p1 hlt (o := (applyO (s.1.getD k ord0) p).1) (applyO_id _ p).symm w
    have hfs : ∀ o ∈ s.1.set k (applyO (s.1.getD k ord0) p).1, FewO o := fun o ho => by
      rcases List.mem_or_eq_of_mem_set ho with q | q
      · exact h.fo o q
      · rw [q]; exact hst.1
    have hlen : (s.1.set k (applyO (s.1.getD k ord0) p).1).length ≤ 32 := by rw [List.length_set]; exact h.few
    have hz : ((applyO (s.1.getD k ord0) p).2.1 != 0) = false := by rcases q with ⟨_, q⟩ | ⟨_, q⟩ | ⟨_, q⟩ <;> rw [q] <;> rfl
    rw [hz]
    simp only [cond_false]
    have same : ∀ w, (p.1 = 3 ∨ p.1 = 4) → (w ∈ s.2.1 ↔ w ∈ oweL (s.1.set k (applyO (s.1.getD k ord0) p).1)) := fun w hp34 => by
      rw [hset w, applyO_id, hid, h.mem w]
      have eo : (applyO (s.1.getD k ord0) p).1.2.2.2.2.2.1 = (s.1.getD k ord0).2.2.2.2.2.1 := by
        rcases q with ⟨e, q⟩ | ⟨_, q⟩ | ⟨_, q⟩
        · omega
        · rw [q]; rfl
        · rw [q]; rfl
      rw [eo]
      by_cases c : w.1 = p.2.1
      · rw [if_pos c]; exact mem_owe_at h.p1 hlt (c.trans hid.symm)
      · rw [if_neg c]
    rcases q with ⟨e, q⟩ | ⟨e, q⟩ | ⟨e, q⟩
    · rw [show (p.1 == 2) = true by simp [e]]
      simp only [cond_true]
      refine ⟨hlen, hfs, hP, ?_, fun w => ?_⟩
      · exact h.nd.filter _
      · show w ∈ quitW s.2.1 p.2.1 ↔ w ∈ oweL (s.1.set k (applyO (s.1.getD k ord0) p).1)
        rw [hset w, applyO_id, hid]
        unfold quitW
        rw [List.mem_filter, h.mem w]
        by_cases c : w.1 = p.2.1
        · rw [if_pos c, q]
          simp [c, cancelled]
        · rw [if_neg c]
          simp [c]
    · rw [show (p.1 == 2) = false by simp [e]]
      exact ⟨hlen, hfs, hP, h.nd, fun w => same w (.inl e)⟩
    · rw [show (p.1 == 2) = false by simp [e]]
      exact ⟨hlen, hfs, hP, h.nd, fun w => same w (.inr e)⟩
theorem apply_good {s : Sto} {p : Prg} (h : GoodSt s) (hp : Few p) : GoodSt (applyS s p).1 := by
  unfold applyS
  rw [goodSt_to h]
  simp only [Bool.not_true, cond_false]
  cases hq : goodP 4 4 p with
  | false => exact h
  | true =>
    simp only [Bool.not_true, cond_false]
    cases h1 : p.1 == 1 with
    | true => exact place_good h hp (placeB_of h1 hq)
    | false =>
      simp only [cond_false]
      cases h5 : p.1 == 5 with
      | true =>
        simp only [cond_true]
        cases q : fillAll s p.2.2.2.2.1 with
        | inl b => exact fillAll_good h (few_takes hp) q
        | inr e => exact h
      | false =>
        simp only [cond_false]
        cases h6 : p.1 == 6 with
        | true => exact h
        | false => exact change_good h
theorem apply_err {s : Sto} {p : Prg} (h : (applyS s p).2 ≠ 0) : (applyS s p).1 = s := by
  unfold applyS at h ⊢
  cases hg : goodS s with
  | false => rfl
  | true =>
    rw [hg] at h
    simp only [Bool.not_true, cond_false] at h ⊢
    cases hq : goodP 4 4 p with
    | false => rfl
    | true =>
      rw [hq] at h
      simp only [Bool.not_true, cond_false] at h ⊢
      cases h1 : p.1 == 1 with
      | true => rw [h1] at h; exact place_err s p h
      | false =>
        rw [h1] at h
        simp only [cond_false] at h ⊢
        cases h5 : p.1 == 5 with
        | true =>
          rw [h5] at h
          simp only [cond_true] at h ⊢
          cases q : fillAll s p.2.2.2.2.1 with
          | inl b => rw [q] at h; exact absurd rfl h
          | inr e => rfl
        | false =>
          rw [h5] at h
          simp only [cond_false] at h ⊢
          cases h6 : p.1 == 6 with
          | true => rfl
          | false => rw [h6] at h; exact change_err s p h
theorem apply_few {s : Sto} {p : Prg} (h : FewS s) (hp : Few p) : FewS (applyS s p).1 := by
  cases hg : goodS s with
  | true => exact (apply_good (goodSt_of h hg) hp).fs
  | false =>
    have : applyS s p = (s, 12) := by unfold applyS; rw [hg]; rfl
    rw [this]; exact h
end Go.Proofs.Pure
