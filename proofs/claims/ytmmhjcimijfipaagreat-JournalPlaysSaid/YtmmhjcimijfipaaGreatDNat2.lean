/- What an operation hands on does not hang on who takes it. -/
import Derived.Test.YtmmhjcimijfipaaGreatDCongr
set_option linter.unusedVariables false
set_option linter.unusedSimpArgs false
namespace Go.Proofs.D
open Go.RowKit

/-- Hands one thing on, whoever takes it. -/
def Hands {A : Type} (f : ∀ (R : Type), (A → Option R) → Option R) : Prop := (∀ R k, f R k = none) ∨ ∃ x, ∀ R k, f R k = k x

section
theorem Hands.one {A : Type} (x : A) : Hands fun R k => k x := .inr ⟨x, fun _ _ => rfl⟩
theorem Hands.none {A : Type} : Hands (A := A) fun R k => none := .inl fun _ _ => rfl
theorem Hands.bif {A : Type} (b : Bool) {f : ∀ (R : Type), (A → Option R) → Option R} (h : Hands f) : Hands fun R k => (bif b then f R k else Option.none) := by
  cases b with
  | true => exact h
  | false => exact .none
theorem Hands.bind {A B : Type} {f : ∀ (R : Type), (A → Option R) → Option R} (h : Hands f) {g : A → ∀ (R : Type), (B → Option R) → Option R} (hg : ∀ x, Hands (g x)) : Hands fun R k => f R (fun x => g x R k) := by
  rcases h with h | ⟨x, h⟩
  · exact .inl fun R k => h R _
  · rcases hg x with q | ⟨y, q⟩
    · exact .inl fun R k => (h R _).trans (q R k)
    · exact .inr ⟨y, fun R k => (h R _).trans (q R k)⟩
theorem Hands.of_nat {A : Type} {f : ∀ (R : Type), (A → Option R) → Option R} {z : Option A} (h : ∀ R k, f R k = z.bind k) : Hands f := by
  cases z with
  | none => exact .inl fun R k => h R k
  | some x => exact .inr ⟨x, fun R k => h R k⟩

theorem hands_natK (i : Int) : Hands fun R (k : Nat → Option R) => natK i k := .of_nat fun R k => natK_nat i k
theorem hands_nthN {α : Type} (l : List α) (n : Nat) : Hands fun R (k : α → Option R) => nthN l n k := .of_nat fun R k => nthN_nat l n k
theorem hands_nthK {α : Type} (l : List α) (i : Int) : Hands fun R (k : α → Option R) => nthK l i k := .of_nat fun R k => nthK_nat l i k
theorem hands_getE (c : K) (x : El c) (p : List Step) : Hands fun R (k : T → Option R) => getE c x p k := .of_nat fun R k => getE_nat c x p k
theorem hands_setD (c : K) (x : El c) (p : List Step) (t : T) : Hands fun R (k : El c → Option R) => setD c x p t k := .of_nat fun R k => setD_nat c x p t k
theorem hands_setT (c : K) (u : T) (p : List Step) (t : T) : Hands fun R (k : T → Option R) => setT c u p t k := .of_nat fun R k => setT_nat c u p t k

theorem getT_nil {R : Type} (t : T) (k : T → Option R) : getT t [] k = k t := by
  cases t <;> first | rfl | (rename_i c x; cases c <;> rfl)
theorem hands_getT : ∀ (u : T) (p : List Step), Hands fun R (k : T → Option R) => getT u p k
  | u, [] => .inr ⟨u, fun R k => getT_nil u k⟩
  | .val c x, q :: p => hands_getE c x (q :: p)
  | .pair a b, .fld 0 :: p => hands_getT a p
  | .pair a b, .fld (j + 1) :: p => hands_getT b (.fld j :: p)
  | .pair a b, .idx (.ofNat 0) :: p => hands_getT a p
  | .pair a b, .idx (.ofNat (j + 1)) :: p => hands_getT b (.idx (.ofNat j) :: p)
  | .pair a b, .idx (.negSucc j) :: p => .none
  | .any _, q :: p => .none
  | .und, q :: p => .none
  | .nils _, q :: p => .none
  | .nilr _, q :: p => .none
  | .ptr _ _, q :: p => .none
  | .row _, q :: p => .none
  | .rptr _ _, q :: p => .none
  | .mapr _, q :: p => .none
  | .clo _ _, q :: p => .none
  | .unit, q :: p => .none
  | .tn, q :: p => .none
  | .tc _ _, q :: p => .none
  | .tup _, q :: p => .none

theorem hands_parts (s : Nat → T) (arr : Bool) (c : K) : ∀ (ps : List (Nat × Operand)) (t : T), Hands fun R (k : T → Option R) => parts s arr c ps t k
  | [], t => .one t
  | (i, x) :: r, t => by
    simp only [parts]
    cases codeAt c (bif arr then [Step.idx (.ofNat i)] else [Step.fld i]) with
    | none => exact .none
    | some d =>
      simp only []
      cases opnd s (some d) x with
      | none => exact .none
      | some u => exact (hands_setT c t _ u).bind fun t' => hands_parts s arr c r t'

theorem hands_cutK {A : Type} (len : Nat) (lo hi : Option T) {g : Nat → Nat → ∀ (R : Type), (A → Option R) → Option R} (hg : ∀ a b, Hands (g a b)) : Hands fun R (k : A → Option R) => cutK len lo hi fun a b => g a b R k := by
  unfold cutK
  split
  · exact hg ..
  · exact .bif _ (hg ..)
  · exact .bif _ (hg ..)
  · exact .bif _ (hg ..)
  · exact .none

theorem hands_settle {σ : Sto} {B : Nat → Option (Nat × List Step)} (j : Nat) (l : List (Option Obj)) (u : Ups) : Hands fun R (k : Ups → Option R) => settle σ B j l u k := .of_nat fun R k => settle_nat

abbrev TU (f : ∀ (R : Type), (T → Ups → Option R) → Option R) : Prop := Hands (A := T × Ups) fun R k => f R fun t u => k (t, u)

theorem hands_eqlK (op : BinOp) (b : Bool) : Hands fun R (k : T → Option R) => eqlK op b k := by
  unfold eqlK
  split
  · exact .one _
  · exact .one _
  · exact .none
theorem hands_arith (op : BinOp) (k : IntKind) (a b : Int) : Hands fun R (κ : T → Option R) => arith op k a b κ := by
  unfold arith
  cases op <;> first | exact .one _ | exact .bif _ (.one _) | exact .none
theorem hands_shiftK (op : BinOp) (k : IntKind) (a b : Int) : Hands fun R (κ : T → Option R) => shiftK op k a b κ := by
  unfold shiftK
  cases op <;> first | exact .bif _ (.one _) | exact .none
theorem Hands.bif2 {A : Type} (b : Bool) {f g : ∀ (R : Type), (A → Option R) → Option R} (h : Hands f) (h' : Hands g) : Hands fun R k => (bif b then f R k else g R k) := by
  cases b with
  | true => exact h
  | false => exact h'
theorem hands_binK (op : BinOp) (t : Option K) (x y : T) : Hands fun R (κ : T → Option R) => binK op t x y κ := by
  unfold binK
  split
  · exact .bif2 _ (hands_shiftK ..) (.bif _ (hands_arith ..))
  · exact hands_eqlK ..
  · exact hands_eqlK ..
  · exact hands_eqlK ..
  · exact hands_eqlK ..
  · exact hands_eqlK ..
  · exact hands_eqlK ..
  · exact hands_eqlK ..
  · exact hands_eqlK ..
  · exact hands_eqlK ..
  · refine .bif _ ?_
    split
    · exact hands_eqlK ..
    · exact .none
  · refine .bif _ ?_
    split
    · exact hands_eqlK ..
    · exact .none
  · exact .none
theorem hands_unK (op : UnOp) (x : T) : Hands fun R (κ : T → Option R) => unK op x κ := by
  unfold unK
  split <;> first | exact .one _ | exact .none

theorem hands_callK (sg : Sig) (dst : Nat) (args : T) (σ : Sto) {g : ∀ (R : Type), (T → Ups → Option R) → Option R} (hg : TU g) : TU fun R k => callK sg dst args σ k fun _ => g R k := by
  unfold callK
  split
  · exact hg
  split
  · exact hg
  refine .bif2 _ ?_ hg
  rename_i x u _ _ o ρ ups _
  cases sg.F (x, o) with
  | none => exact .none
  | some y => exact (hands_settle _ _ _).bind fun v => .one (_, v)

theorem hands_callsK (dst : Nat) (args : T) (σ : Sto) : ∀ (l : List Sig), TU fun R k => callsK l dst args σ k
  | [] => .none
  | sg :: r => hands_callK sg dst args σ (hands_callsK dst args σ r)

theorem hands_evalOp (C : Ctx) (o : Oper) (s : Nat → T) (σ : Sto) : TU fun R k => evalOp C o s σ k := by
  unfold TU
  cases hop : o.op with
  | move x => simp only [evalOp, hop]; split <;> first | exact .one (_, _) | exact .none
  | assign x => simp only [evalOp, hop]; split <;> first | exact .one (_, _) | exact .none
  | pick c a b =>
    simp only [evalOp, hop]
    split
    · split <;> (split <;> first | exact .one (_, _) | exact .none)
    · exact .none
  | alloc t => simp only [evalOp, hop]; split <;> first | exact .one (_, _) | exact .none
  | box t x =>
    simp only [evalOp, hop]
    split
    · exact .bif _ (.one (_, _))
    · exact .none
  | build t ps =>
    simp only [evalOp, hop]
    split
    · exact .bif _ ((hands_parts ..).bind fun u => .one (_, _))
    · exact .none
  | buildSlice t n ps =>
    simp only [evalOp, hop]
    split
    · split
      · exact .bif _ (.one (_, _))
      · exact .none
    · exact .none
  | load t x =>
    simp only [evalOp, hop]
    split
    · exact .bif _ (.one (_, _))
    · refine .bif _ ?_
      split
      · exact (hands_getT _ _).bind fun v => .one (_, _)
      · split
        · exact (hands_nthK _ _).bind fun x => (hands_getE _ _ _).bind fun v => .one (_, _)
        · exact .none
      · exact .none
    · exact .none
  | store t x y =>
    simp only [evalOp, hop]
    split
    · refine .bif _ ?_
      split
      · exact (hands_setT _ _ _ _).bind fun v => .one (_, _)
      · split
        · exact (hands_natK _).bind fun n => (hands_nthN _ _).bind fun x => (hands_setD _ _ _ _).bind fun v => .one (_, _)
        · exact .none
      · exact .none
    · exact .none
  | nilCheck x => simp only [evalOp, hop]; split <;> first | exact .one (_, _) | exact .none
  | binOp op t x y ty =>
    simp only [evalOp, hop]
    split
    · exact (hands_binK _ _ _ _).bind fun t => .one (_, _)
    · exact .none
  | unOp op t x =>
    simp only [evalOp, hop]
    split
    · exact (hands_unK _ _).bind fun t => .one (_, _)
    · exact .none
  | convert t d x =>
    simp only [evalOp, hop]
    split
    · exact .bif _ (.one (_, _))
    · exact .bif _ (.one (_, _))
    · exact .none
  | slice t x lo hi mx =>
    simp only [evalOp, hop]
    split
    · exact .bif _ (hands_cutK _ _ _ fun a b => .one (_, _))
    · split
      · exact .bif _ (hands_cutK _ _ _ fun a b => .one (_, _))
      · exact .none
    · exact .bif _ (hands_cutK _ _ _ fun a b => .bif _ (.one (_, _)))
    · split
      · exact .bif _ (hands_cutK _ _ _ fun a b => .bif _ (.one (_, _)))
      · exact .none
    · exact .bif _ (hands_cutK _ _ _ fun a b => .one (_, _))
    · refine .bif _ ?_
      split
      · refine (hands_getT _ _).bind fun v => ?_
        split
        · exact hands_cutK _ _ _ fun a b => .one (_, _)
        · exact .none
      · exact .none
    · exact .none
  | fieldAddr t x j =>
    simp only [evalOp, hop]
    split
    · exact .bif _ (.one (_, _))
    · refine .bif _ ((hands_getE _ _ _).bind fun v => ?_)
      split <;> first | exact .one (_, _) | exact .none
    · exact .none
  | field t x j =>
    simp only [evalOp, hop]
    split
    · split
      · exact .bif _ ((hands_getT _ _).bind fun v => .one (_, _))
      · exact .none
    · exact .none
  | indexAddr t x i =>
    simp only [evalOp, hop]
    split
    · exact .bif _ ((hands_nthK _ _).bind fun v => .one (_, _))
    · split
      · exact .bif _ (.bif _ (.one (_, _)))
      · exact .none
    · exact .bif _ (.bif _ (.one (_, _)))
    · exact .bif _ ((hands_nthK _ _).bind fun v => .one (_, _))
    · exact .none
  | index t x i =>
    simp only [evalOp, hop]
    split
    · exact .bif _ ((hands_nthK _ _).bind fun v => .one (_, _))
    · split
      · exact .bif _ ((hands_getT _ _).bind fun v => .one (_, _))
      · exact .none
    · exact .bif _ ((hands_nthK _ _).bind fun v => .one (_, _))
    · exact .none
  | extract x j =>
    simp only [evalOp, hop]
    split
    · split <;> first | exact .one (_, _) | exact .none
    · exact .none
  | makeFunc f fst caps =>
    cases f with
    | func g =>
      simp only [evalOp, hop]
      split
      · split
        · exact .bif _ (.one (_, _))
        · exact .none
      · split
        · split <;> first | exact .one (_, _) | exact .none
        · exact .none
    | _ => simp only [evalOp, hop]; exact .none
  | makeSlice t x y =>
    simp only [evalOp, hop]
    split
    · exact .bif _ (.bif _ (.one (_, _)))
    · exact .none
  | makeMap t rs => cases rs <;> simp only [evalOp, hop] <;> first | exact .none | (split <;> first | exact .one (_, _) | exact .none)
  | lookup t x i ok =>
    simp only [evalOp, hop]
    split
    · split
      · refine .bif _ ?_
        split
        · split <;> exact .one (_, _)
        · exact .none
      · exact .none
    · refine .bif _ ?_
      split
      · split <;> exact .one (_, _)
      · exact .none
    · exact .none
  | mapUpdate t x i z =>
    simp only [evalOp, hop]
    split
    · split
      · refine .bif _ ?_
        split
        · exact .one (_, _)
        · exact .none
      · exact .none
    · exact .none
  | call c =>
    cases hca : c.callee with
    | invoke x n => simp only [evalOp, hop, hca]; exact .none
    | builtin b =>
      simp only [evalOp, hop, hca]
      split
      · split <;> first | exact .one (_, _) | (split <;> first | exact .one (_, _) | exact .none) | exact .none
      · split
        · exact .bif _ (.one (_, _))
        · exact .none
      · split
        · exact .bif _ (.one (_, _))
        · exact .none
      · split
        · refine .bif _ ?_
          split
          · split
            · split
              · exact .bif _ (.one (_, _))
              · split
                · split
                  · exact .bif _ (.one (_, _))
                  · exact .none
                · exact .none
              · exact .none
            · exact .none
          · exact .none
        · exact .none
      · split
        · split
          · split
            · refine .bif _ ?_
              split
              · exact .one (_, _)
              · exact .none
            · exact .none
          · exact .none
        · exact .none
      · exact .none
    | value f =>
      simp only [evalOp, hop, hca]
      split
      · split
        · exact .bif2 _ (hands_callsK _ _ _ _) (.bif _ (hands_callsK _ _ _ _))
        · exact .none
      · exact .none
  | _ => simp only [evalOp, hop]; exact .none

/-- What an operation yields. -/
def Gives (C : Ctx) (o : Oper) (s : Nat → T) (σ : Sto) (t : T) (u : Ups) : Prop := ∀ (R : Type) (κ : T → Ups → Option R), evalOp C o s σ κ = κ t u

theorem evalOp_gives {C : Ctx} {o : Oper} {s : Nat → T} {σ : Sto} {R : Type} {κ : T → Ups → Option R} {r : R} (h : evalOp C o s σ κ = some r) : ∃ t u, Gives C o s σ t u ∧ κ t u = some r := by
  rcases hands_evalOp C o s σ with q | ⟨⟨t, u⟩, q⟩
  · have := h.symm.trans (q R fun x => κ x.1 x.2)
    cases this
  · exact ⟨t, u, fun R κ => q R fun x => κ x.1 x.2, (q R fun x => κ x.1 x.2).symm.trans h⟩
end
end Go.Proofs.D
