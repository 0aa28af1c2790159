/- The law OrderPlaces. -/
import Derived.Test.YtmhbfandkefnaaaOrdGood
import Derived.Test.YtmhbfandkefnaaaRefGood
set_option linter.unusedVariables false
namespace Go.Proofs.Pure
open Go.Proofs.D Go.Proofs.F

theorem few13_val (p : Prg) (h : WfE kProgram p) : pledgelaw13_Few p = some 0 ∨ (pledgelaw13_Few p = some 1 ∧ Few p ∧ p.2.2.2.1.length ≤ 20 ∧ p.2.2.2.2.1.length ≤ 30 ∧ p.2.2.2.2.2.1.length ≤ 20) := by
  unfold pledgelaw13_Few pledgelaw13_isFew
  by_cases h1 : (p.2.2.2.1.length : Int) ≤ 20
  · by_cases h2 : (p.2.2.2.2.1.length : Int) ≤ 30
    · by_cases h3 : (p.2.2.2.2.2.1.length : Int) ≤ 20
      · rw [dec_t h1, dec_t h2, dec_t h3]
        exact .inr ⟨rfl, ⟨h, by omega, by omega, by omega⟩, by omega, by omega, by omega⟩
      · rw [dec_t h1, dec_t h2, dec_f h3]; exact .inl rfl
    · rw [dec_t h1, dec_f h2]; exact .inl rfl
  · rw [dec_f h1]; exact .inl rfl

def ord0 : Ord := (0, (0, ([], ([], ([], ([], ()))))))
def placed (p : Prg) : Ord := (p.2.1, (p.2.2.1, (p.2.2.2.1, (p.2.2.2.2.1, ([], (p.2.2.2.2.2.1, ()))))))
def placeB (p : Prg) : Bool := (p.1 == 1) && goodP 4 4 p

theorem place_val (p : Prg) (h : Few p) : order_Place p = some (bif placeB p then (placed p, (0, ())) else (ord0, (1, ()))) := by
  have l1 := h.lines; have l2 := h.takes; have l3 := h.owes
  unfold order_Place placeB slices_Clone_api_Line_api_Line slices_Clone_api_Take_api_Take
  rw [progGood_val 4 4 p h, room_ok (by omega), room_ok (by omega), room_ok (by omega), Option.bind_some]
  cases c : (p.1 == 1) with
  | false => rw [show (p.1 != 1) = true by simp [bne, c]]; rfl
  | true => rw [show (p.1 != 1) = false by simp [bne, c]]; cases goodP 4 4 p <;> rfl
theorem ref22Place_val (p : Prg) (h : Few p) : pledgeref22_Place p = some (bif placeB p then (placed p, (0, ())) else (ord0, (1, ()))) := by
  unfold pledgeref22_Place placeB
  rw [refGoodP_val 4 4 p h, Option.bind_some]
  cases c : (p.1 == 1) with
  | false => rw [show (p.1 != 1) = true by simp [bne, c]]; rfl
  | true => rw [show (p.1 != 1) = false by simp [bne, c]]; cases goodP 4 4 p <;> rfl

theorem want_at {s : Int} {l : List Ln} (h : linesB s l = true) (hs : s ≤ 4) (hw : ∀ x ∈ l, WfE kLine x) : ∀ x ∈ l, (wantOf l).getD x.1.toNat 0 = x.2.1 := by
  have hlt := linesB_lt h
  have hb : ∀ x ∈ l, 0 ≤ x.1 ∧ x.1 < 4 := fun x hx => ⟨(wf_u8 (hw x hx).1).1, by have := (hlt x hx).1; omega⟩
  intro x hx
  rcases linesB_shape h with e | ⟨a, e⟩ | ⟨a, b, e, h1⟩ | ⟨a, b, c, e, h1, h2⟩ <;> subst e
  · cases hx
  · have ha := hb a (by simp)
    simp only [wantOf, List.foldl_cons, List.foldl_nil]
    rcases List.mem_singleton.1 hx with rfl
    rw [set_at _ _ _ _ (by simp) (by omega), if_pos rfl]
  · have ha := hb a (by simp)
    have hb' := hb b (by simp)
    simp only [wantOf, List.foldl_cons, List.foldl_nil]
    rw [set_at _ _ _ _ (by simp) (by omega), set_at _ _ _ _ (by simp) (by omega)]
    simp only [List.mem_cons, List.not_mem_nil, or_false] at hx
    rcases hx with rfl | rfl
    · rw [if_neg (by omega), if_pos rfl]
    · rw [if_pos rfl]
  · have ha := hb a (by simp)
    have hb' := hb b (by simp)
    have hc := hb c (by simp)
    simp only [wantOf, List.foldl_cons, List.foldl_nil]
    rw [set_at _ _ _ _ (by simp) (by omega), set_at _ _ _ _ (by simp) (by omega), set_at _ _ _ _ (by simp) (by omega)]
    simp only [List.mem_cons, List.not_mem_nil, or_false] at hx
    rcases hx with rfl | rfl | rfl
    · rw [if_neg (by omega), if_neg (by omega), if_pos rfl]
    · rw [if_neg (by omega), if_pos rfl]
    · rw [if_pos rfl]

structure Placed (s w : Int) (p : Prg) : Prop where
  id : p.2.1 ≠ 0
  still : stillB p = true
  policy : p.2.2.1 ≤ 1
  pos : (p.2.2.2.1.length : Int) > 0
  lines : linesB s p.2.2.2.1 = true
  takes : takesB s w p.2.1 p.2.2.2.2.1 = true
  owes : linesB s p.2.2.2.2.2.1 = true
  covered : coveredB p.2.2.2.2.1 p.2.2.2.2.2.1 p.2.2.2.1 = true

theorem goodKind_place {s w : Int} {p : Prg} (hk : p.1 = 1) (h : goodP s w p = true) : Placed s w p := by
  unfold goodP goodKind at h
  rw [show (p.1 == 1) = true by rw [beq_iff_eq]; exact hk] at h
  simp only [cond_true, Bool.and_eq_true, orderedB, decide_eq_true_eq, bne_iff_ne, ne_eq] at h
  obtain ⟨_, ⟨h1, h2⟩, h3, h4, h5, h6, h7, h8, _⟩ := h
  exact ⟨h1, h2, h3, h4, h5, h6, h7, h8⟩

theorem coverP_at {a : P4} {w : List Int} (h : coverP a w = true) (k : Nat) (hk : k < 4) : coverK ([a.1, a.2.1, a.2.2.1, a.2.2.2].getD k []) (w.getD k 0) = true := by
  unfold coverP at h
  simp only [Bool.and_eq_true] at h
  match k, hk with
  | 0, _ => exact h.1
  | 1, _ => exact h.2.1
  | 2, _ => exact h.2.2.1
  | 3, _ => exact h.2.2.2

theorem covered_at {t : List Tk} {o l : List Ln} (h : coveredB t o l = true) (k : Nat) (hk : k < 4) : sumOf (namedOf k t o) = ((wantOf l).getD k 0, (true, ())) := by
  have := coverP_at h k hk
  have e : [(partsOf t o).1, (partsOf t o).2.1, (partsOf t o).2.2.1, (partsOf t o).2.2.2].getD k [] = namedOf k t o := by
    match k, hk with
    | 0, _ => rfl
    | 1, _ => rfl
    | 2, _ => rfl
    | 3, _ => rfl
  rw [e] at this
  unfold coverK at this
  simp only [Bool.and_eq_true, Bool.not_eq_true', bne_eq_false_iff_eq] at this
  exact Prod.ext this.2 (Prod.ext this.1 rfl)

theorem takesO_of {id : Int} {l : List Tk} (h : takesB 4 4 id l = true) : takesO id l = true := by
  unfold takesB at h
  unfold takesO
  simp only [Bool.and_eq_true] at h
  rw [allFrom_iff]
  intro j h1 h2
  have := (allFrom_iff.1 h.1) j h1 h2
  unfold takeR at this
  simp only [Bool.and_eq_true] at this
  exact this.1

theorem placed_good {p : Prg} (hp : Placed 4 4 p) (h : Few p) : goodO (placed p) = true := by
  unfold goodO placed
  simp only []
  rw [show (p.2.1 == 0) = false by rw [beq_eq_false_iff_ne]; exact hp.id, dec_f (by have := hp.policy; omega), show ((p.2.2.2.1.length : Int) == 0) = false by rw [beq_eq_false_iff_ne]; have := hp.pos; omega, hp.lines, hp.owes, takesO_of hp.takes, show takesO p.2.1 [] = true from rfl]
  simp only [Bool.not_false, Bool.true_and]
  rw [allFrom_iff]
  intro k _ hk
  unfold namedR
  simp only [List.append_nil]
  rw [covered_at hp.covered k (by omega), first_want hp.lines h.w1 k (by omega)]
  simp only [Bool.true_and]
  rw [dec_f (by omega)]; rfl

theorem wf_placed {p : Prg} (h : Few p) : FewO (placed p) :=
  ⟨⟨h.wf.2.1, h.wf.2.2.1, h.wf.2.2.2.1, h.wf.2.2.2.2.1, ⟨Nat.zero_le _, fun x hx => by cases hx⟩, h.wf.2.2.2.2.2.1, trivial⟩, h.lines, h.takes, by simp [placed], h.owes⟩

theorem OrderPlaces (x0 : Prg) (hx0 : WfE kProgram x0) : pledgelaw22_OrderPlaces x0 = some true := by
  unfold pledgelaw22_OrderPlaces
  rcases few13_val x0 hx0 with e | ⟨e, h, a1, a2, a3⟩
  · rw [e, works22]; rfl
  have hf := wf_placed h
  rw [e, works22, place_val x0 h, ref22Place_val x0 h]
  simp only [Option.bind_some, show ((1 : Int) == 0) = false by decide, cond_false]
  cases c : placeB x0 with
  | false =>
    have hs : pledgeref22_Same ord0 ord0 = some true := by kernel_rfl
    simp only [cond_false, hs, Option.bind_some, Bool.not_true]
    have run : iterL pledgelaw22_OrderPlaces.l1 loopN (((), ((), ((1 : Int), 0))), (x0, (ord0, ()))) = some (.inl ()) := by
      refine iterL_mono (n := 1) (iterL_done ?_) (by rw [loopN_eq]; omega)
      unfold pledgelaw22_OrderPlaces.l1
      cases decide ((0 : Int) < (x0.2.2.2.1.length : Int)) <;> rfl
    rw [show ((1 : Int) != 1) = false by decide, cond_false]
    rw [run]
    rfl
  | true =>
    unfold placeB at c
    simp only [Bool.and_eq_true, beq_iff_eq] at c
    have hp := goodKind_place c.1 c.2
    have l1 := hf.lines; have l2 := hf.held; have l3 := hf.sent; have l4 := hf.owes
    simp only [cond_true]
    rw [refsame_val _ _ (by omega) (by omega) (by omega) (by omega), sameO_refl]
    simp only [Option.bind_some, Bool.not_true, cond_false, show ((0 : Int) != 0) = false by decide]
    have run := loop_all (step := pledgelaw22_OrderPlaces.l1) (fun i => (((), ((), ((0 : Int), (i : Int)))), (x0, (placed x0, ())))) (fun _ => true) (.inl ()) (.inr false) x0.2.2.2.1.length (by omega) (fun i hi => by
      have hg := at_get hi
      have hm : at0 x0.2.2.2.1 i ∈ x0.2.2.2.1 := get_mem hg
      have hwl := wf_u8 (h.w1 _ hm).1
      have hlt := (linesB_lt hp.lines _ hm).1
      unfold pledgelaw22_OrderPlaces.l1
      simp only [dec_t (show (i : Int) < (x0.2.2.2.1.length : Int) by omega), cond_true, show ((0 : Int) == 0) = true by decide]
      rw [orderGood_val _ hf, placed_good hp h, Option.bind_some]
      simp only [Bool.not_true, cond_false]
      rw [nthK_get hg]
      unfold order_Total
      rw [named_val _ _ (by omega) (by omega) (by omega) hf.w2 hf.w3 hf.w4]
      have en : namedOf (at0 x0.2.2.2.1 i).1 ((placed x0).2.2.2.1 ++ (placed x0).2.2.2.2.1) (placed x0).2.2.2.2.2.1 = namedOf (((at0 x0.2.2.2.1 i).1.toNat : Nat) : Int) x0.2.2.2.2.1 x0.2.2.2.2.2.1 := by
        rw [Int.toNat_of_nonneg hwl.1]
        unfold placed
        simp only [List.append_nil]
      rw [en, covered_at hp.covered _ (by omega), want_at hp.lines (by omega) h.w1 _ hm, Option.bind_some, Option.bind_some, nthK_get hg, succ_i64 (by omega)]
      rw [show ((at0 x0.2.2.2.1 i).2.1 != (at0 x0.2.2.2.1 i).2.1) = false by simp]
      rfl) (by
      unfold pledgelaw22_OrderPlaces.l1
      simp only [dec_f (show ¬ (x0.2.2.2.1.length : Int) < (x0.2.2.2.1.length : Int) by omega), cond_false])
    rw [show (((0 : Nat) : Int)) = 0 from rfl] at run
    rw [run]
    rw [show allFrom (fun _ => true) 0 x0.2.2.2.1.length = true from allFrom_iff.2 fun _ _ _ => rfl]
    rfl
end Go.Proofs.Pure
