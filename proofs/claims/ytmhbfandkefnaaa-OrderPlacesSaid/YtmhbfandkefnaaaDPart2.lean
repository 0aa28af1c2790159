/- Parts of slots put anew; zero values; fields. -/
import Derived.Test.YtmhbfandkefnaaaDPart
set_option linter.unusedVariables false
set_option linter.unusedSimpArgs false
namespace Go.Proofs.D
open Go.RowKit

section
variable {w : World} {S : Cells} {m : Nat → Option MB} {R : Type}

theorem setT_ok : ∀ {t : T} {c d : K} {p : List Step} {v : T} {k : T → Option R} {r : R} {vs : List Value}, t.fits c = true → codeAt c p = some d → RepC w S m v vs → setT c t p v k = some r →
    ∃ y : T, k y = some r ∧ Leaf v d vs ∧ y.fits c = true ∧ ∀ cs, RepC w S m t cs → RepC w S m y (splice cs (offK c p) vs) ∧ offK c p + d.size ≤ cs.length := by
  intro t
  have nilCase : ∀ {t : T} {c d : K} {v : T} {k : T → Option R} {r : R} {vs : List Value}, t.fits c = true → codeAt c [] = some d → RepC w S m v vs → (bif v.fits c then k v else none) = some r →
      ∃ y : T, k y = some r ∧ Leaf v d vs ∧ y.fits c = true ∧ ∀ cs, RepC w S m t cs → RepC w S m y (splice cs (offK c []) vs) ∧ offK c [] + d.size ≤ cs.length := by
    intro t c d v k r vs hf hc hv h
    simp only [codeAt, Option.some.injEq] at hc; subst hc
    obtain ⟨hvf, h⟩ := bif_some h
    refine ⟨v, h, Leaf.of_fits hvf hv, hvf, fun cs hr => ?_⟩
    rw [show offK c [] = 0 by cases c <;> rfl, splice_all (by rw [RepC.length hvf hv, RepC.length hf hr])]
    exact ⟨hv, by rw [RepC.length hf hr]; omega⟩
  induction t with
  | val c' x =>
    intro c d p v k r vs hf hc hv h
    have := T.fits_val hf; subst this
    have h' : setV c x p v k = some r := by cases c <;> exact h
    exact setV_ok hc hv h'
  | pair a b iha ihb =>
    intro c d p v k r vs hf hc hv h
    match p with
    | [] =>
      refine nilCase hf hc hv ?_
      cases c <;> first | exact h | (rename_i n e; cases n <;> exact h)
    | .fld 0 :: p =>
      cases c <;> first | (simp [codeAt] at hc; done) | skip
      rename_i ca cb
      simp only [codeAt] at hc; simp only [setT] at h; simp only [T.fits, Bool.and_eq_true] at hf
      obtain ⟨y, hk, hl, hyf, hy⟩ := iha hf.1 hc hv h
      refine ⟨_, hk, hl, mk2_fits hyf hf.2, ?_⟩
      rintro cs ⟨c1, c2, e, h1, h2⟩
      obtain ⟨h3, h4⟩ := hy c1 h1
      subst e
      simp only [offK]
      rw [splice_left (by have := hl.1; omega)]
      exact ⟨mk2_ok h3 h2, by simp; omega⟩
    | .fld (j + 1) :: p =>
      cases c <;> first | (simp [codeAt] at hc; done) | skip
      rename_i ca cb
      simp only [codeAt] at hc; simp only [setT] at h; simp only [T.fits, Bool.and_eq_true] at hf
      obtain ⟨y, hk, hl, hyf, hy⟩ := ihb hf.2 hc hv h
      refine ⟨_, hk, hl, mk2_fits hf.1 hyf, ?_⟩
      rintro cs ⟨c1, c2, e, h1, h2⟩
      obtain ⟨h3, h4⟩ := hy c2 h2
      subst e
      simp only [offK, ← RepC.length hf.1 h1]
      rw [splice_right]
      exact ⟨mk2_ok h1 h3, by simp; omega⟩
    | .idx (.ofNat 0) :: p =>
      cases c <;> first | (simp [codeAt] at hc; done) | skip
      rename_i n e
      cases n with
      | zero => simp [T.fits] at hf
      | succ n =>
      simp only [codeAt] at hc; simp only [setT] at h; simp only [T.fits, Bool.and_eq_true] at hf
      obtain ⟨y, hk, hl, hyf, hy⟩ := iha hf.1 hc hv h
      refine ⟨_, hk, hl, by simp [T.fits, hyf, hf.2], ?_⟩
      rintro cs ⟨c1, c2, e', h1, h2⟩
      obtain ⟨h3, h4⟩ := hy c1 h1
      subst e'
      simp only [offK, Int.ofNat_eq_natCast, Int.toNat_natCast, Nat.zero_mul, Nat.zero_add]
      rw [splice_left (by have := hl.1; omega)]
      exact ⟨⟨_, _, rfl, h3, h2⟩, by simp; omega⟩
    | .idx (.ofNat (j + 1)) :: p =>
      cases c <;> first | (simp [codeAt] at hc; done) | skip
      rename_i n e
      cases n with
      | zero => simp [T.fits] at hf
      | succ n =>
      simp only [codeAt] at hc; simp only [setT] at h; simp only [T.fits, Bool.and_eq_true] at hf
      obtain ⟨y, hk, hl, hyf, hy⟩ := ihb hf.2 (show codeAt (.arr n e) (.idx (.ofNat j) :: p) = some d from hc) hv h
      refine ⟨_, hk, hl, by simp [T.fits, hyf, hf.1], ?_⟩
      rintro cs ⟨c1, c2, e', h1, h2⟩
      obtain ⟨h3, h4⟩ := hy c2 h2
      have hl1 := RepC.length hf.1 h1
      subst e'
      have eo : offK (.arr (n + 1) e) (.idx (.ofNat (j + 1)) :: p) = c1.length + offK (.arr n e) (.idx (.ofNat j) :: p) := by
        simp only [offK, Int.ofNat_eq_natCast, Int.toNat_natCast, Nat.add_mul, hl1]; omega
      rw [eo, splice_right]
      refine ⟨⟨_, _, rfl, h1, h3⟩, ?_⟩
      rw [List.length_append]
      have := h4
      simp only [Int.ofNat_eq_natCast] at this ⊢
      omega
    | .idx (.negSucc j) :: p => cases c <;> first | (simp [setT] at h; done) | (rename_i n e; cases n <;> simp [setT] at h)
  | _ =>
    intro c d p v k r vs hf hc hv h
    match p with
    | [] => exact nilCase hf hc hv (by cases c <;> first | exact h | (rename_i n e; cases n <;> exact h))
    | q :: p => exfalso; cases c <;> first | (simp [setT] at h; done) | (rename_i n e; cases n <;> simp [setT] at h)

/-! ### Zero values -/
theorem RepL.replicate {α : Type} {Q : α → List Value → Prop} {x : α} {cs : List Value} (h : Q x cs) : ∀ n, RepL Q (List.replicate n x) (List.replicate n cs).flatten
  | 0 => rfl
  | n + 1 => ⟨cs, _, rfl, h, RepL.replicate h n⟩

theorem zeroE_ok : ∀ {c : K}, c.data = true → Rep w S c (zeroE c) (zcells c)
  | .int _, _ => rfl
  | .bool, _ => rfl
  | .str, _ => rfl
  | .ref _, h => by cases h
  | .slice e, _ => ⟨none, 0, rfl, Nat.le_refl _, fun i x hx => by simp [zeroE] at hx⟩
  | .unit, _ => rfl
  | .cons a b, h => by
    simp only [K.data, Bool.and_eq_true] at h
    exact ⟨_, _, rfl, zeroE_ok h.1, zeroE_ok h.2⟩
  | .arr n e, h => ⟨by simp [zeroE], RepL.replicate (zeroE_ok (by simpa [K.data] using h)) n⟩

theorem K.data_of_flat : ∀ {c : K}, c.flat = true → c.data = true
  | .int _, _ => rfl
  | .bool, _ => rfl
  | .str, _ => rfl
  | .ref _, h => by cases h
  | .slice e, h => by cases h
  | .unit, _ => rfl
  | .cons a b, h => by
    simp only [K.flat, Bool.and_eq_true] at h
    simp [K.data, K.data_of_flat h.1, K.data_of_flat h.2]
  | .arr n e, h => by
    simp only [K.flat] at h
    simp [K.data, K.data_of_flat h]

theorem zcells_length : ∀ c : K, (zcells c).length = c.size
  | .int _ => rfl | .bool => rfl | .str => rfl | .slice _ => rfl | .unit => rfl
  | .ref 0 => rfl | .ref 1 => rfl | .ref (n + 2) => rfl
  | .cons a b => by simp [zcells, K.size, zcells_length a, zcells_length b]
  | .arr n e => by simp [zcells, K.size, zcells_length e]

theorem chain_ok {e : K} {t : T} {cs : List Value} (hf : t.fits e = true) (hr : RepC w S m t cs) : ∀ n, RepC w S m (zeroT.chain n t) (List.replicate n cs).flatten ∧ (zeroT.chain n t).fits (.arr n e) = true
  | 0 => ⟨rfl, rfl⟩
  | n + 1 => ⟨⟨cs, _, rfl, hr, (chain_ok hf hr n).1⟩, by simp [zeroT.chain, T.fits, hf, (chain_ok hf hr n).2]⟩

theorem zeroT_ok : ∀ c : K, RepC w S m (zeroT c) (zcells c) ∧ (zeroT c).fits c = true
  | .int _ => ⟨rfl, by simp [zeroT, T.fits]⟩
  | .bool => ⟨rfl, by simp [zeroT, T.fits]⟩
  | .str => ⟨rfl, by simp [zeroT, T.fits]⟩
  | .ref 0 => ⟨.inl ⟨rfl, rfl⟩, by simp [zeroT, T.fits]⟩
  | .ref 1 => ⟨.inr (.inl ⟨rfl, rfl⟩), by simp [zeroT, T.fits]⟩
  | .ref (n + 2) => ⟨.inr (.inr ⟨by omega, rfl⟩), by simp [zeroT, T.fits]⟩
  | .slice e => ⟨rfl, by simp [zeroT, T.fits]⟩
  | .unit => ⟨rfl, by simp [zeroT, T.fits]⟩
  | .cons a b => ⟨mk2_ok (zeroT_ok a).1 (zeroT_ok b).1, mk2_fits (zeroT_ok a).2 (zeroT_ok b).2⟩
  | .arr n e => by
    simp only [zeroT]
    cases he : e.flat with
    | true => exact ⟨zeroE_ok (c := .arr n e) (K.data_of_flat (by simpa [K.flat] using he)), fits_self (.arr n e) _⟩
    | false => exact chain_ok (zeroT_ok e).2 (zeroT_ok e).1 n

theorem zcells_one (c : K) : ∀ v ∈ zcells c, v.oneCell' = true :=
  have h := zeroT_ok (w := default) (S := fun _ _ => False) (m := fun _ => none) c
  RepC.one h.2 h.1

end
end Go.Proofs.D
