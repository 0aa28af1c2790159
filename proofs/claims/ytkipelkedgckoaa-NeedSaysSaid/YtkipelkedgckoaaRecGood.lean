/- Records: which may be. -/
import Derived.Test.YtkipelkedgckoaaRefGood
set_option linter.unusedVariables false
set_option linter.unusedSimpArgs false
namespace Go.Proofs.Pure
open Go.Proofs.D Go.Proofs.F

abbrev Ky := Int × Int × Int × Unit
abbrev Rc := Int × Int × Int × Int × Bool × Ky × Int × Int × Prg × Unit
theorem sameP_val (x y : Prg) (h1 : x.2.2.2.1.length < 1000) (h2 : x.2.2.2.2.1.length < 1000) (h3 : x.2.2.2.2.2.1.length < 1000) : prog_Same x y = some (sameP x y) := by
  unfold prog_Same sameP
  rw [equal_val _ _ h1, equalT_val _ _ h2, equal_val _ _ h3]
  simp only [Option.bind_some]
  simp only [cond_some, cond_no]

def keyC (k : Ky) : Bool := decide (k.2.1 < 4) && (bif (k.1 == 1) || (k.1 == 2) then decide (k.2.2.1 < 4) else (((k.1 == 3) || (k.1 == 4)) && (k.2.2.1 == 0)))
theorem keyC_val (k : Ky) (h1 : 0 ≤ k.2.1 ∧ k.2.1 < 256) (h2 : 0 ≤ k.2.2.1 ∧ k.2.2.1 < 256) : key_Good 4 4 k = some (keyC k) ∧ pledgeref04_Good 4 4 k = some (keyC k) := by
  obtain ⟨a, b, c, u⟩ := k
  simp only at h1 h2
  have e1 : IntKind.i64.wrap b = b := wrap_i64 (by omega) (by omega)
  have e2 : IntKind.i64.wrap c = c := wrap_i64 (by omega) (by omega)
  unfold key_Good key_fine key_both pledgeref04_Good keyC
  simp only [e1, e2]
  have ne : ∀ n : Int, a ≠ n → (a == n) = false := fun n h => by simpa using h
  by_cases hb : b < 4
  · rw [dec_f (show ¬ b ≥ 4 by omega), dec_t hb]
    by_cases a1 : a = 1
    · subst a1; constructor <;> (by_cases hc : c < 4 <;> simp [hc])
    by_cases a2 : a = 2
    · subst a2; constructor <;> (by_cases hc : c < 4 <;> simp [hc])
    by_cases a3 : a = 3
    · subst a3; constructor <;> simp
    by_cases a4 : a = 4
    · subst a4; constructor <;> simp
    rw [ne 1 a1, ne 2 a2, ne 3 a3, ne 4 a4]
    by_cases l1 : a < 1
    · constructor <;> simp [l1]
    · have l4 : a > 4 := by omega
      constructor <;> simp [l4]
  · rw [dec_t (show b ≥ 4 by omega), dec_f hb]
    by_cases l1 : a < 1
    · constructor <;> simp [l1]
    · by_cases l4 : a > 4
      · constructor <;> simp [l4]
      · constructor <;> simp [l1, l4]

def prgZ : Prg := (0, (0, (0, ([], ([], ([], (0, (0, (0, (0, ()))))))))))
def kyZ : Ky := (0, (0, (0, ())))
def sameR (x y : Rc) : Bool := (x.1 == y.1) && ((x.2.1 == y.2.1) && ((x.2.2.1 == y.2.2.1) && ((x.2.2.2.1 == y.2.2.2.1) && ((x.2.2.2.2.1 == y.2.2.2.2.1) && (eqE kKey x.2.2.2.2.2.1 y.2.2.2.2.2.1 && ((x.2.2.2.2.2.2.1 == y.2.2.2.2.2.2.1) && ((x.2.2.2.2.2.2.2.1 == y.2.2.2.2.2.2.2.1) && sameP x.2.2.2.2.2.2.2.2.1 y.2.2.2.2.2.2.2.2.1)))))))
theorem eqKey_refl (k : Ky) : eqE kKey k k = true := by
  show ((k.1 == k.1) && ((k.2.1 == k.2.1) && ((k.2.2.1 == k.2.2.1) && true))) = true
  simp
theorem sameR_refl (x : Rc) : sameR x x = true := by unfold sameR; simp [sameP_refl, eqKey_refl]
theorem sameR_val (x y : Rc) (hf : Few x.2.2.2.2.2.2.2.2.1) : rec_Same x y = some (sameR x y) := by
  have l1 := hf.lines; have l2 := hf.takes; have l3 := hf.owes
  unfold rec_Same sameR
  rw [sameP_val _ _ (by omega) (by omega) (by omega)]
  simp only [Option.bind_some, cond_some, cond_no]
theorem refSameR_val (x y : Rc) (hf : Few x.2.2.2.2.2.2.2.2.1) : pledgeref14_Same x y = some (sameR x y) := by
  have l1 := hf.lines; have l2 := hf.takes; have l3 := hf.owes
  unfold pledgeref14_Same sameR
  rw [refSameP_val _ _ (by omega) (by omega) (by omega)]
  simp only [Option.bind_some, cond_some, cond_no]

def ownR (r : Rc) : Rc × Bool :=
  bif r.1 == 1 then ((r.1, (r.2.1, (0, (0, (false, (kyZ, (0, (0, (r.2.2.2.2.2.2.2.2.1, ()))))))))), (r.2.1 != 0) && goodP 4 4 r.2.2.2.2.2.2.2.2.1)
  else bif r.1 == 2 then ((r.1, (r.2.1, (r.2.2.1, (r.2.2.2.1, (r.2.2.2.2.1, (kyZ, (0, (0, (prgZ, ()))))))))), (r.2.1 != 0) && ((r.2.2.1 != 0) && decide (r.2.2.2.1 < 5)))
  else bif (r.1 == 3) || (r.1 == 6) then ((r.1, (0, (r.2.2.1, (0, (false, (r.2.2.2.2.2.1, (r.2.2.2.2.2.2.1, (0, (prgZ, ()))))))))), (r.2.2.1 != 0) && (keyC r.2.2.2.2.2.1 && ((r.2.2.2.2.2.2.1 != 0) && decide (r.2.2.2.2.2.2.1 ≥ -9223372036854775807))))
  else bif (r.1 == 4) || ((r.1 == 5) || (r.1 == 7)) then ((r.1, (0, (r.2.2.1, (0, (false, (kyZ, (0, (0, (prgZ, ()))))))))), r.2.2.1 != 0)
  else bif r.1 == 8 then ((r.1, (r.2.1, (0, (0, (false, (kyZ, (0, (0, (prgZ, ()))))))))), r.2.1 != 0)
  else bif r.1 == 9 then ((r.1, (r.2.1, (0, (0, (false, (kyZ, (0, (r.2.2.2.2.2.2.2.1, (prgZ, ()))))))))), (r.2.1 != 0) && ((r.2.2.2.2.2.2.2.1 == 1) || (r.2.2.2.2.2.2.2.1 == 2)))
  else ((r.1, (0, (0, (0, (false, (kyZ, (0, (0, (prgZ, ()))))))))), false)
def recB (r : Rc) : Bool := (ownR r).2 && sameR r (ownR r).1

structure FewR (r : Rc) : Prop where
  pr : Few r.2.2.2.2.2.2.2.2.1
  k1 : 0 ≤ r.2.2.2.2.2.1.2.1 ∧ r.2.2.2.2.2.1.2.1 < 256
  k2 : 0 ≤ r.2.2.2.2.2.1.2.2.1 ∧ r.2.2.2.2.2.1.2.2.1 < 256
  d : -9223372036854775808 ≤ r.2.2.2.2.2.2.1

theorem own_val (r : Rc) (h : FewR r) : rec_own r = some ((ownR r).1, ((ownR r).2, ())) := by
  obtain ⟨hf, hk1, hk2, hd⟩ := h
  obtain ⟨k, saga, txn, step, back, key, delta, out, p, u⟩ := r
  simp only at hf hk1 hk2 hd
  obtain ⟨g1, g2⟩ := keyC_val key hk1 hk2
  have p1 := progGood_val 4 4 p hf
  have hdd : (delta != (-9223372036854775808 : Int)) = decide (delta ≥ -9223372036854775807) := by
    by_cases h : delta = -9223372036854775808
    · subst h; rfl
    · rw [dec_t (by omega)]; simp [h]
  unfold rec_own ownR
  by_cases c1 : k = 1
  · subst c1; simp only [p1, beq_self_eq_true, cond_true, Option.bind_some]
    cases saga != 0 <;> rfl
  by_cases c2 : k = 2
  · subst c2; simp only [show ((2 : Int) == 1) = false from rfl, beq_self_eq_true, cond_true, cond_false]
    cases saga != 0 <;> cases txn != 0 <;> rfl
  by_cases c3 : k = 3
  · subst c3; simp only [show ((3 : Int) == 1) = false from rfl, show ((3 : Int) == 2) = false from rfl, beq_self_eq_true, cond_true, cond_false, Bool.true_or, Option.bind_some, g1, hdd]
    cases txn != 0 <;> cases keyC key <;> cases delta != 0 <;> rfl
  by_cases c6 : k = 6
  · subst c6; simp only [show ((6 : Int) == 1) = false from rfl, show ((6 : Int) == 2) = false from rfl, show ((6 : Int) == 3) = false from rfl, beq_self_eq_true, cond_true, cond_false, Bool.or_true, Option.bind_some, g1, hdd]
    cases txn != 0 <;> cases keyC key <;> cases delta != 0 <;> rfl
  by_cases c4 : k = 4
  · subst c4; rfl
  by_cases c5 : k = 5
  · subst c5; rfl
  by_cases c7 : k = 7
  · subst c7; rfl
  by_cases c8 : k = 8
  · subst c8; rfl
  by_cases c9 : k = 9
  · subst c9
    simp only [show ((9 : Int) == 1) = false from rfl, show ((9 : Int) == 2) = false from rfl, show ((9 : Int) == 3) = false from rfl, show ((9 : Int) == 4) = false from rfl, show ((9 : Int) == 5) = false from rfl, show ((9 : Int) == 6) = false from rfl, show ((9 : Int) == 7) = false from rfl, show ((9 : Int) == 8) = false from rfl, beq_self_eq_true, cond_true, cond_false, Bool.or_false, Option.bind_some]
    cases saga != 0 <;> cases out == 1 <;> cases out == 2 <;> rfl
  have hk : ∀ n : Int, k ≠ n → (k == n) = false := fun n h => by simpa using h
  simp only [hk 1 c1, hk 2 c2, hk 3 c3, hk 4 c4, hk 5 c5, hk 6 c6, hk 7 c7, hk 8 c8, hk 9 c9, cond_false, Bool.or_false, Option.bind_some]
  rfl

theorem recGood_val (r : Rc) (h : FewR r) : rec_Good r = some (recB r) := by
  unfold rec_Good recB
  rw [own_val r h, Option.bind_some, sameR_val _ _ h.pr]
  simp only [Option.bind_some]
  cases (ownR r).2 <;> rfl

theorem refRecGood_val (r : Rc) (h : FewR r) : pledgeref14_Good r = some (recB r) := by
  obtain ⟨hf, hk1, hk2, hd⟩ := h
  have hs : ∀ q, pledgeref14_Same r q = some (sameR r q) := fun q => refSameR_val r q hf
  obtain ⟨k, saga, txn, step, back, key, delta, out, p, u⟩ := r
  simp only at hf hk1 hk2 hd
  obtain ⟨g1, g2⟩ := keyC_val key hk1 hk2
  have p2 := refGoodP_val 4 4 p hf
  unfold pledgeref14_Good recB ownR
  by_cases c1 : k = 1
  · subst c1; simp only [p2, beq_self_eq_true, cond_true, Option.bind_some]
    cases saga != 0 <;> simp only [cond_true, cond_false, Option.bind_some, hs] <;> cases goodP 4 4 p <;> rfl
  by_cases c2 : k = 2
  · subst c2; simp only [show ((2 : Int) == 1) = false from rfl, beq_self_eq_true, cond_true, cond_false]
    cases saga != 0 <;> cases txn != 0 <;> simp only [cond_true, cond_false, Option.bind_some, hs] <;> cases decide (step < 5) <;> rfl
  by_cases c3 : k = 3
  · subst c3; simp only [show ((3 : Int) == 1) = false from rfl, show ((3 : Int) == 2) = false from rfl, beq_self_eq_true, cond_true, cond_false, Bool.true_or, Option.bind_some, g2]
    cases txn != 0 <;> cases keyC key <;> cases delta != 0 <;> simp only [cond_true, cond_false, Option.bind_some, hs] <;> cases decide (delta ≥ -9223372036854775807) <;> rfl
  by_cases c6 : k = 6
  · subst c6; simp only [show ((6 : Int) == 1) = false from rfl, show ((6 : Int) == 2) = false from rfl, show ((6 : Int) == 3) = false from rfl, beq_self_eq_true, cond_true, cond_false, Bool.or_true, Option.bind_some, g2]
    cases txn != 0 <;> cases keyC key <;> cases delta != 0 <;> simp only [cond_true, cond_false, Option.bind_some, hs] <;> cases decide (delta ≥ -9223372036854775807) <;> rfl
  by_cases c4 : k = 4
  · subst c4
    simp only [show ((4 : Int) == 1) = false from rfl, show ((4 : Int) == 2) = false from rfl, show ((4 : Int) == 3) = false from rfl, show ((4 : Int) == 5) = false from rfl, show ((4 : Int) == 6) = false from rfl, show ((4 : Int) == 7) = false from rfl, show ((4 : Int) == 8) = false from rfl, show ((4 : Int) == 9) = false from rfl, beq_self_eq_true, cond_true, cond_false, Bool.or_false, Bool.or_true, Bool.true_or, Bool.false_or, Option.bind_some]
    cases txn != 0 <;> simp only [cond_true, cond_false, Option.bind_some, hs] <;> rfl
  by_cases c5 : k = 5
  · subst c5
    simp only [show ((5 : Int) == 1) = false from rfl, show ((5 : Int) == 2) = false from rfl, show ((5 : Int) == 3) = false from rfl, show ((5 : Int) == 4) = false from rfl, show ((5 : Int) == 6) = false from rfl, show ((5 : Int) == 7) = false from rfl, show ((5 : Int) == 8) = false from rfl, show ((5 : Int) == 9) = false from rfl, beq_self_eq_true, cond_true, cond_false, Bool.or_false, Bool.or_true, Bool.true_or, Bool.false_or, Option.bind_some]
    cases txn != 0 <;> simp only [cond_true, cond_false, Option.bind_some, hs] <;> rfl
  by_cases c7 : k = 7
  · subst c7
    simp only [show ((7 : Int) == 1) = false from rfl, show ((7 : Int) == 2) = false from rfl, show ((7 : Int) == 3) = false from rfl, show ((7 : Int) == 4) = false from rfl, show ((7 : Int) == 5) = false from rfl, show ((7 : Int) == 6) = false from rfl, show ((7 : Int) == 8) = false from rfl, show ((7 : Int) == 9) = false from rfl, beq_self_eq_true, cond_true, cond_false, Bool.or_false, Bool.or_true, Bool.true_or, Bool.false_or, Option.bind_some]
    cases txn != 0 <;> simp only [cond_true, cond_false, Option.bind_some, hs] <;> rfl
  by_cases c8 : k = 8
  · subst c8
    simp only [show ((8 : Int) == 1) = false from rfl, show ((8 : Int) == 2) = false from rfl, show ((8 : Int) == 3) = false from rfl, show ((8 : Int) == 4) = false from rfl, show ((8 : Int) == 5) = false from rfl, show ((8 : Int) == 6) = false from rfl, show ((8 : Int) == 7) = false from rfl, show ((8 : Int) == 9) = false from rfl, beq_self_eq_true, cond_true, cond_false, Bool.or_false, Bool.or_true, Bool.true_or, Bool.false_or, Option.bind_some]
    cases saga != 0 <;> simp only [cond_true, cond_false, Option.bind_some, hs] <;> rfl
  by_cases c9 : k = 9
  · subst c9
    simp only [show ((9 : Int) == 1) = false from rfl, show ((9 : Int) == 2) = false from rfl, show ((9 : Int) == 3) = false from rfl, show ((9 : Int) == 4) = false from rfl, show ((9 : Int) == 5) = false from rfl, show ((9 : Int) == 6) = false from rfl, show ((9 : Int) == 7) = false from rfl, show ((9 : Int) == 8) = false from rfl, beq_self_eq_true, cond_true, cond_false, Bool.or_false, Option.bind_some]
    cases saga != 0 <;> cases out == 1 <;> cases out == 2 <;> simp only [cond_true, cond_false, Option.bind_some, hs] <;> rfl
  have hk : ∀ n : Int, k ≠ n → (k == n) = false := fun n h => by simpa using h
  simp only [hk 1 c1, hk 2 c2, hk 3 c3, hk 4 c4, hk 5 c5, hk 6 c6, hk 7 c7, hk 8 c8, hk 9 c9, cond_false, Bool.or_false, Option.bind_some, hs]
  rfl
end Go.Proofs.Pure
