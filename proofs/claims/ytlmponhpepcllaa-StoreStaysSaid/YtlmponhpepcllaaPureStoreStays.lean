/- The law StoreStays. -/
import Derived.Test.YtlmponhpepcllaaStoPlay
set_option linter.unusedVariables false
namespace Go.Proofs.Pure
open Go.Proofs.D Go.Proofs.F

theorem StoreStays (x0 : List Prg) (x1 : Prg) (hx0 : WfE (.slice kProgram) x0) (hx1 : WfE kProgram x1) : pledgelaw24_StoreStays x0 x1 = some true := by
  have hl : x0.length ≤ 9223372036854775807 := by have := hx0.1; have h2 : List.length x0 ≤ maxLen := this; unfold maxLen at h2; omega
  unfold pledgelaw24_StoreStays
  obtain ⟨b, e, hb⟩ := fewL_val x0 hx0 hl
  cases b with
  | false => rw [e, works24]; rfl
  | true =>
  have hf := hb rfl
  rcases few13_val x1 hx1 with e' | ⟨e', hp, _⟩
  · rw [e, e', works24]; rfl
  have hg := play_good hf
  have hn := apply_good hg hp
  obtain ⟨⟨l1, l2⟩, l3⟩ := apply_stay hg hp
  have h32 := hg.few
  rw [e, e', works24, play_val x0 hl hf]
  simp only [Option.bind_some, Bool.not_true, cond_false, show ((1 : Int) == 0) = false by decide]
  rw [apply_val3 _ x1 hg.fs hp, Option.bind_some]
  simp only []
  generalize playS x0 = s at *
  generalize (applyS s x1).1 = n at *
  rw [dec_f (show ¬ (n.1.length : Int) < (s.1.length : Int) by omega), succ_i64 (by omega), dec_f (show ¬ (n.1.length : Int) > ((s.1.length + 1 : Nat) : Int) by omega), storeGood_val s hg.fs, goodSt_to hg, storeGood_val n hn.fs, goodSt_to hn]
  simp only [Option.bind_some, Bool.not_true, cond_false]
  have := loop_all (step := pledgelaw24_StoreStays.l1) (fun i => (((), ((), (i : Int))), (s, (n, ())))) (fun _ => true) (.inl ()) (.inr false) s.1.length (by omega) (fun i hi => by
    obtain ⟨e1, e2, e3⟩ := l3 i hi
    unfold pledgelaw24_StoreStays.l1
    simp only [dec_t (show (i : Int) < (s.1.length : Int) by omega), cond_true]
    rw [nthK_get (getD_at hi), nthK_get (getD_at (show i < n.1.length by omega)), e1, e2, e3]
    simp only [bne_self_eq_false, cond_false]
    rw [succ_i64 (by omega)]) (by
    unfold pledgelaw24_StoreStays.l1
    simp only [dec_f (show ¬ (s.1.length : Int) < (s.1.length : Int) by omega), cond_false])
  rw [show (((0 : Nat) : Int)) = 0 from rfl, show allFrom (fun _ => true) 0 s.1.length = true from allFrom_iff.2 fun _ _ _ => rfl] at this
  rw [this]; rfl
end Go.Proofs.Pure
