/- The law OrderKeeps. -/
import Derived.Test.YtmhbfandkefnaaaPureOrderDoes
set_option linter.unusedVariables false
namespace Go.Proofs.Pure
open Go.Proofs.D Go.Proofs.F

def sumN (x : Ord) (k : Int) : Int := T k x.2.2.2.1 + T k x.2.2.2.2.1 + L k x.2.2.2.2.2.1

theorem total_val {x : Ord} (h : FewO x) (hg : GoodO x) (k : Nat) (hk : k < 4) : order_Total x k = some (sumN x k) := by
  have l1 := h.lines; have l2 := h.held; have l3 := h.sent; have l4 := h.owes
  obtain ⟨n1, n2⟩ := hg.named k hk
  have e1 := T_nonneg k hg.held; have e2 := T_nonneg k hg.sent; have e3 := L_nonneg (k := k) hg.owes
  unfold order_Total sumN
  rw [named_val x k (by omega) (by omega) (by omega) h.w2 h.w3 h.w4, sumOf_fit (by rw [named_total, T_append]; omega) (by rw [named_total, T_append]; exact n1), named_total, T_append]
  rfl

theorem all_val (l m : List Tk) (k : Nat) (h1 : l.length < 1000) (h2 : m.length < 1000) (w1 : ∀ x ∈ l, WfE kTake x) (w2 : ∀ x ∈ m, WfE kTake x) (h3 : 0 ≤ T k l + T k m) (h4 : T k l + T k m < 9223372036854775808) : pledgelaw22_all l m k = some (T k l + T k m) := by
  unfold pledgelaw22_all pledgeref22_Total
  rw [refnamed_val (0, (0, ([], (l, (m, ([], ())))))) k (by show l.length < _; omega) (by show m.length < _; omega) (by show (0 : Nat) < _; omega) w1 w2 (fun y hy => by cases hy)]
  simp only []
  have e : total (namedOf k (l ++ m) []) = T k l + T k m := by rw [named_total, T_append]; show _ + 0 = _; omega
  rw [sumOf_fit (by rw [e]; omega) (by rw [e]; exact h4), e]
  rfl

/-- What a filling leaves as it was. -/
theorem fill_keeps {x : Ord} {t : Tk} (h : FewO x) (hw : WfE kTake t) (hg : GoodO x) : GoodO (fillO x t).1 ∧ (∀ k : Int, sumN (fillO x t).1 k = sumN x k) ∧ ((fillO x t).2.1 = 0 → ∀ k : Int, firstOf k (fillO x t).1.2.2.2.2.2.1 = firstOf k x.2.2.2.2.2.1 - (if t.2.1 = k then t.2.2.2.1 else 0)) ∧ ((fillO x t).2.1 ≠ 0 → (fillO x t).1 = x) := by
  rcases fill_cases x t with ⟨e, e2⟩ | ⟨_, hb, ho, e⟩
  · rw [e]; exact ⟨hg, fun _ => rfl, fun q => absurd q e2, fun _ => rfl⟩
  · have hv := (base_valid hw).1 hb
    obtain ⟨g1, g2, g3⟩ := filled_good h hg hv ho
    rw [e]
    refine ⟨g1, fun k => ?_, fun _ k => g3 k, fun q => absurd rfl q⟩
    have a := L_first (k := k) g1.owes
    have b := L_first (k := k) hg.owes
    have c := g3 k
    have d := g2 k
    unfold sumN
    show T k (ins t x.2.2.2.1) + T k x.2.2.2.2.1 + L k (lessL t.2.1 t.2.2.2.1 x.2.2.2.2.2.1) = _
    have a' : L k (lessL t.2.1 t.2.2.2.1 x.2.2.2.2.2.1) = firstOf k (lessL t.2.1 t.2.2.2.1 x.2.2.2.2.2.1) := a
    rw [a', b, c, d]
    omega

/-- What a program leaves as it was. -/
structure Keeps (x : Ord) (p : Prg) (r : Ord) (f : Int) : Prop where
  good : GoodO r
  bad : f ≠ 0 → r = x
  id : f = 0 → p.2.1 = x.1
  two : f = 0 → p.1 = 2 → ∀ k : Int, sumN r k = T k x.2.2.2.2.1
  three : f = 0 → p.1 = 3 → ∀ k : Int, T k r.2.2.2.2.1 = T k x.2.2.2.1 + T k x.2.2.2.2.1
  four : f = 0 → p.1 = 4 → ∀ k : Int, sumN r k = sumN x k - T k x.2.2.2.2.1
  else' : (f = 0 → p.1 ≠ 2 ∧ p.1 ≠ 4) → ∀ k : Int, sumN r k = sumN x k

theorem apply_keeps {x : Ord} {p : Prg} (h : FewO x) (hg : GoodO x) : Keeps x p (applyO x p).1 (applyO x p).2.1 := by
  rcases apply_cases x p with ⟨e, e2⟩ | ⟨_, _, e3, ⟨k, e⟩ | ⟨k, e⟩ | ⟨k, e⟩⟩
  · rw [e]; exact ⟨hg, fun _ => rfl, fun q => absurd q e2, fun q => absurd q e2, fun q => absurd q e2, fun q => absurd q e2, fun _ _ => rfl⟩
  · rw [e]
    refine ⟨cancelled_good hg, fun q => absurd rfl q, fun _ => e3, fun _ _ k => ?_, fun _ q => by omega, fun _ q => by omega, fun q => absurd k (q rfl).1⟩
    show 0 + T k x.2.2.2.2.1 + 0 = _
    omega
  · rw [e]
    obtain ⟨g1, g2⟩ := shipped_good h hg
    refine ⟨g1, fun q => absurd rfl q, fun _ => e3, fun _ q => by omega, fun _ _ k => ?_, fun _ q => by omega, fun _ k => ?_⟩
    · show T k (shipL x.2.2.2.2.1 x.2.2.2.1) = _
      rw [g2]; omega
    · show 0 + T k (shipL x.2.2.2.2.1 x.2.2.2.1) + L k x.2.2.2.2.2.1 = T k x.2.2.2.1 + T k x.2.2.2.2.1 + L k x.2.2.2.2.2.1
      rw [g2]; omega
  · rw [e]
    refine ⟨returned_good hg, fun q => absurd rfl q, fun _ => e3, fun _ q => by omega, fun _ q => by omega, fun _ _ k => ?_, fun q => absurd k (q rfl).2⟩
    show T k x.2.2.2.1 + 0 + L k x.2.2.2.2.2.1 = T k x.2.2.2.1 + T k x.2.2.2.2.1 + L k x.2.2.2.2.2.1 - T k x.2.2.2.2.1
    omega

abbrev KSt := (Unit × Unit × Unit × Unit × Int × Unit × Int × Int) × Ord × Prg × Tk × Ord × Ord × Unit
def kst (x : Ord) (p : Prg) (t : Tk) (q r : Ord) (e f k : Int) : KSt := (((), ((), ((), ((), (e, ((), (f, k))))))), (x, (p, (t, (q, (r, ()))))))

theorem keeps_step {x q r : Ord} {p : Prg} {t : Tk} {e f : Int} (h : FewO x) (hq : FewO q) (hr : FewO r) (hw : WfE kTake t) (hg : GoodO x) (gq : GoodO q) (n1 : ∀ k : Int, sumN q k = sumN x k)
    (n2 : e = 0 → ∀ k : Int, firstOf k q.2.2.2.2.2.1 = firstOf k x.2.2.2.2.2.1 - (if t.2.1 = k then t.2.2.2.1 else 0)) (K : Keeps x p r f) (k : Nat) (hk : k < 4) :
    pledgelaw22_OrderKeeps.l1 (kst x p t q r e f k) = some (.inl (kst x p t q r e f ((k + 1 : Nat) : Int))) := by
  have a1 := h.held; have a2 := h.sent; have a3 := h.owes; have b1 := hq.owes; have c1 := hr.sent
  have tx := total_val h hg k hk
  have tq := total_val hq gq k hk
  have tr := total_val hr K.good k hk
  obtain ⟨f1, f2⟩ := hg.named k hk
  have p1 := T_nonneg k hg.held; have p2 := T_nonneg k hg.sent; have p3 := L_nonneg (k := k) hg.owes
  have asn : pledgelaw22_all [] x.2.2.2.2.1 k = some (T k x.2.2.2.2.1) := by
    have := all_val [] x.2.2.2.2.1 k (by simp) (by omega) (fun y hy => by cases hy) h.w3 (by rw [T_nil]; omega) (by rw [T_nil]; omega)
    rwa [T_nil, Int.zero_add] at this
  have ah := all_val x.2.2.2.1 x.2.2.2.2.1 k (by omega) (by omega) h.w2 h.w3 (by omega) (by omega)
  have w1 : IntKind.u8.wrap ((k : Int) + 1) = ((k + 1 : Nat) : Int) := by rw [wrap_u8 (by omega) (by omega)]; omega
  rw [n1] at tq
  unfold pledgelaw22_OrderKeeps.l1 kst
  simp only [dec_t (show (k : Int) < 4 by omega), cond_true]
  rw [tq, tx]
  simp only [Option.bind_some, bne_self_eq_false, cond_false]
  have first : ∀ (X : (Unit × Unit × Unit × Unit × Int × Unit × Int × Int) × Ord × Prg × Tk × Ord × Ord × Unit), (bif e == 0 then bif (k : Int) == t.2.1 then (order_Owed q k).bind fun r75 => (order_Owed x k).bind fun r76 => bif r75 != IntKind.i64.wrap (r76 - t.2.2.2.1) then some (Sum.inr false) else some (Sum.inl X) else some (Sum.inl X) else some (Sum.inl X) : Option (_ ⊕ Bool)) = some (.inl X) := by
    intro X
    by_cases he : e = 0
    · rw [show (e == 0) = true by rw [beq_iff_eq]; exact he]
      by_cases hs : (k : Int) = t.2.1
      · rw [show ((k : Int) == t.2.1) = true by rw [beq_iff_eq]; exact hs]
        simp only [cond_true]
        rw [owed_val q k (by omega), owed_val x k (by omega)]
        simp only [Option.bind_some]
        have e1 := n2 he k
        rw [if_pos hs.symm] at e1
        have e2 := first_nonneg (k := (k : Int)) gq.owes
        have e3 := L_first (k := (k : Int)) hg.owes
        have e5 := (gq.named k hk).1
        have e6 := T_nonneg (k : Int) gq.held; have e7 := T_nonneg (k : Int) gq.sent
        rw [L_first gq.owes] at e5
        rw [e1, wrap_i64 (by omega) (by omega), bne_self_eq_false]; rfl
      · rw [show ((k : Int) == t.2.1) = false by rw [beq_eq_false_iff_ne]; exact hs]; rfl
    · rw [show (e == 0) = false by rw [beq_eq_false_iff_ne]; exact he]; rfl
  rw [first]
  simp only [Option.bind_some]
  rw [tx]
  simp only [Option.bind_some]
  by_cases hf : f = 0
  · rw [show (f == 0) = true by rw [beq_iff_eq]; exact hf]
    simp only [cond_true]
    by_cases k2 : p.1 = 2
    · have s2 := K.two hf k2 k
      rw [show (p.1 == 2) = true by rw [beq_iff_eq]; exact k2]
      simp only [cond_true]
      rw [asn]
      simp only [Option.bind_some, show (f == 0) = true by rw [beq_iff_eq]; exact hf, show (p.1 == 4) = false by rw [beq_eq_false_iff_ne]; omega, show (p.1 == 3) = false by rw [beq_eq_false_iff_ne]; omega, cond_true, cond_false]
      rw [tr, s2]
      simp only [Option.bind_some, bne_self_eq_false, cond_false, w1]
    · rw [show (p.1 == 2) = false by rw [beq_eq_false_iff_ne]; exact k2]
      simp only [cond_false, Option.bind_some, show (f == 0) = true by rw [beq_iff_eq]; exact hf, cond_true]
      by_cases k4 : p.1 = 4
      · have s4 := K.four hf k4 k
        rw [show (p.1 == 4) = true by rw [beq_iff_eq]; exact k4]
        simp only [cond_true]
        have hw4 : IntKind.i64.wrap (sumN x k - T k x.2.2.2.2.1) = sumN x k - T k x.2.2.2.2.1 := by unfold sumN; exact wrap_i64 (by omega) (by omega)
        rw [asn]
        simp only [Option.bind_some, show (f == 0) = true by rw [beq_iff_eq]; exact hf, show (p.1 == 3) = false by rw [beq_eq_false_iff_ne]; omega, cond_true, cond_false]
        rw [tr, s4, hw4]
        simp only [Option.bind_some, bne_self_eq_false, cond_false, w1]
      · have sE := K.else' (fun _ => ⟨k2, k4⟩) k
        rw [show (p.1 == 4) = false by rw [beq_eq_false_iff_ne]; exact k4]
        simp only [cond_false, Option.bind_some]
        rw [tr, sE]
        simp only [Option.bind_some, bne_self_eq_false, cond_false, show (f == 0) = true by rw [beq_iff_eq]; exact hf, cond_true]
        by_cases k3 : p.1 = 3
        · have s3 := K.three hf k3 k
          rw [show (p.1 == 3) = true by rw [beq_iff_eq]; exact k3]
          simp only [cond_true]
          have ar : pledgelaw22_all [] r.2.2.2.2.1 k = some (T k r.2.2.2.2.1) := by
            have := all_val [] r.2.2.2.2.1 k (by simp) (by omega) (fun y hy => by cases hy) hr.w3 (by rw [T_nil, s3]; omega) (by rw [T_nil, s3]; omega)
            rwa [T_nil, Int.zero_add] at this
          rw [ar, ah, s3]
          simp only [Option.bind_some, bne_self_eq_false, cond_false, w1]
        · rw [show (p.1 == 3) = false by rw [beq_eq_false_iff_ne]; exact k3]
          simp only [cond_false, w1]
  · have sE := K.else' (fun q => absurd q hf) k
    simp only [show (f == 0) = false by rw [beq_eq_false_iff_ne]; exact hf, cond_false, Option.bind_some]
    rw [tr, sE]
    simp only [Option.bind_some, bne_self_eq_false, cond_false, w1]

theorem OrderKeeps (x0 : Ord) (x1 : Prg) (x2 : Tk) (hx0 : WfE kOrder x0) (hx1 : WfE kProgram x1) (hx2 : WfE kTake x2) : pledgelaw22_OrderKeeps x0 x1 x2 = some true := by
  unfold pledgelaw22_OrderKeeps
  rcases few22_val x0 hx0 with e | ⟨e, h, a, b, c, d⟩
  · rw [e, works22]; rfl
  rcases few13_val x1 hx1 with e' | ⟨e', hp, _⟩
  · rw [e, e', works22]; rfl
  rw [e, e', works22, orderGood_val x0 h]
  simp only [Option.bind_some, show ((1 : Int) == 0) = false by decide, cond_false]
  cases hG : goodO x0 with
  | false => rfl
  | true =>
  have hg := good_of h hG
  obtain ⟨s1, s2⟩ := apply_stays (p := x1) h b c
  obtain ⟨s3, s4⟩ := fill_stays h hx2 b
  obtain ⟨g1, g2, g3, g4⟩ := fill_keeps h hx2 hg
  have K := apply_keeps (p := x1) h hg
  simp only [Bool.not_true, cond_false]
  rw [fill_val x0 x2 h hx2, apply_val x0 x1 h hp]
  simp only [Option.bind_some]
  generalize (fillO x0 x2).1 = q at *
  generalize (fillO x0 x2).2.1 = e1 at *
  generalize (applyO x0 x1).1 = r at *
  generalize (applyO x0 x1).2.1 = f at *
  have run := loop_all (step := pledgelaw22_OrderKeeps.l1) (fun k => kst x0 x1 x2 q r e1 f (k : Int)) (fun _ => true) (.inl (((), ((), ((), (e1, ((), f))))), (x0, (x1, (q, (r, ())))))) (.inr false) 4 (by omega) (fun k hk => (keeps_step h s3 s1 hx2 hg g1 g2 g3 K k hk).trans rfl) rfl
  rw [show (((0 : Nat) : Int)) = 0 from rfl, show allFrom (fun _ => true) 0 4 = true from rfl] at run
  unfold kst at run
  rw [run]
  have l1 := s1.lines; have l2 := s1.held; have l3 := s1.sent; have l4 := s1.owes
  have m1 := s3.lines; have m2 := s3.held; have m3 := s3.sent; have m4 := s3.owes
  have sq : e1 ≠ 0 → order_Same q x0 = some true := fun he => by rw [same_val _ _ (by omega) (by omega) (by omega) (by omega), g4 he, sameO_refl]
  have sr : f ≠ 0 → order_Same r x0 = some true := fun he => by rw [same_val _ _ (by omega) (by omega) (by omega) (by omega), K.bad he, sameO_refl]
  simp only [cond_true, Option.bind_some]
  by_cases hf : f = 0
  · rw [show (f != 0) = false by simp [hf], show (x1.2.1 == x0.1) = true by rw [beq_iff_eq]; exact K.id hf, show (f == 0) = true by rw [beq_iff_eq]; exact hf]
    by_cases he : e1 = 0
    · rw [show (e1 == 0) = true by rw [beq_iff_eq]; exact he]; rfl
    · rw [show (e1 == 0) = false by rw [beq_eq_false_iff_ne]; exact he, sq he]; rfl
  · rw [show (f != 0) = true by simp [hf], show (f == 0) = false by rw [beq_eq_false_iff_ne]; exact hf, sr hf]
    by_cases he : e1 = 0
    · rw [show (e1 == 0) = true by rw [beq_iff_eq]; exact he]; rfl
    · rw [show (e1 == 0) = false by rw [beq_eq_false_iff_ne]; exact he, sq he]; rfl
end Go.Proofs.Pure
