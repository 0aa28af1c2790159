/- Functions of Go's library whose contract is shown by hand: math/bits.Add64. -/
import Derived.Test.YtmmhjcimijfipaaGreatDTy
import Derived.Laws.Externs
set_option linter.unusedVariables false
set_option linter.unusedSimpArgs false
namespace Go.Proofs.D
open Go.RowKit

section
variable {P : Program}

theorem run_add64_any (x y c : Int) (hc : c.toNat ≤ 1) (w : World) : (add64Entry #[.int .u64 x, .int .u64 y, .int .u64 c]).run P w =
    .ok (.tuple #[.int .u64 (Int.ofNat ((x.toNat + y.toNat + c.toNat) % 18446744073709551616)), .int .u64 (Int.ofNat ((x.toNat + y.toNat + c.toNat) / 18446744073709551616))]) w := by
  cases c with
  | negSucc n => rfl
  | ofNat n =>
    match n, hc with
    | 0, _ => rfl
    | 1, _ => rfl
    | n + 2, h => simp at h; omega

/-- Where nothing is handed over but data that hang on no memory. -/
theorem sound_plain {f : FuncId} {args ret : Sk} {F : SkEl args × ObsEl [] → Option (ResEl ret [])} (h : ∀ (w : World) (S : Cells) (m : Nat → Option MB) (x : SkEl args) (y : SkEl ret) (vals : List Value), F (x, ()) = some y → RepC w S m (fill args x) vals →
      ∃ v, (callFunc f vals.toArray).run P w = .ok (.value v) w ∧ RepV w S m (fill ret y) v) : Sound P f { args := args, objs := [], ret := ret, outs := [], F := F } := by
  intro w S m x y vals hF ha hrel hbig
  obtain ⟨v, h1, h2⟩ := h w S m x.1 y vals hF ha
  rw [h1]
  exact ⟨S, m, h2, hrel, fun i u _ q => q, (Ext.refl (OwnSt (objs0 (fillOs [] x.2)) m) w S m).drop⟩

theorem add64_sound {f : FuncId} {fn : Func} (hf : P.funcs[f]? = some fn) (h1 : (fn.name == "runtime.NumGoroutine") = false) (h2 : fn.body.isNone = true) (h3 : Extern.findNext fn = none) (h4 : Extern.find fn = some add64Entry) :
    Sound P f { args := .tc (.val (.int .u64)) (.tc (.val (.int .u64)) (.tc (.val (.int .u64)) .tn)), objs := [], ret := .tup (.tc (.val (.int .u64)) (.tc (.val (.int .u64)) .tn)), outs := [], F := fun x => add64 x.1.1 x.1.2.1 x.1.2.2.1 } := by
  refine sound_plain fun w S m x y vals hF ha => ?_
  obtain ⟨v1, r1, e1, a1, ha⟩ := ha
  obtain ⟨v2, r2, e2, a2, ha⟩ := ha
  obtain ⟨v3, r3, e3, a3, ha⟩ := ha
  have ha : r3 = [] := ha
  subst ha; subst e3; subst e2; subst e1
  have b1 := repV_int (k := .u64) (n := x.1) a1
  have b2 := repV_int (k := .u64) (n := x.2.1) a2
  have b3 := repV_int (k := .u64) (n := x.2.2.1) a3
  subst b1; subst b2; subst b3
  have hF : add64 x.1 x.2.1 x.2.2.1 = some y := hF
  unfold add64 at hF
  obtain ⟨hc, hF⟩ := chk_some hF
  simp only [decide_eq_true_eq] at hc
  cases hF
  have hv := run_add64_any (P := P) x.1 x.2.1 x.2.2.1 hc w
  have hcall := run_callFunc_extern hf h1 h2 h3 h4 #[.int .u64 x.1, .int .u64 x.2.1, .int .u64 x.2.2.1] w
  rw [hv] at hcall
  exact ⟨_, hcall, .inr ⟨_, ⟨_, ⟨_, _, rfl, repV_mkInt .u64 _, _, _, rfl, repV_mkInt .u64 _, rfl⟩, rfl⟩, rfl⟩⟩
end
end Go.Proofs.D
