/- What an evaluator's piece hands on does not hang on who takes it. -/
import Derived.Test.YtmhbfandkefnaaaDCall2
set_option linter.unusedVariables false
set_option linter.unusedSimpArgs false
namespace Go.Proofs.D
open Go.RowKit

section

theorem natK_nat {R : Type} (i : Int) (k : Nat → Option R) : natK i k = (natK i some).bind k := by cases i <;> rfl
theorem nthN_nat {R α : Type} (l : List α) (n : Nat) (k : α → Option R) : nthN l n k = (nthN l n some).bind k := by
  unfold nthN; cases l[n]? <;> rfl
theorem nthK_nat {R α : Type} (l : List α) (i : Int) (k : α → Option R) : nthK l i k = (nthK l i some).bind k := by
  cases i with
  | ofNat n => exact nthN_nat l n k
  | negSucc n => rfl
theorem bif_nat {R α : Type} (b : Bool) (x : α) (k : α → Option R) : (bif b then k x else none) = (bif b then some x else none).bind k := by cases b <;> rfl

theorem getE_nat : ∀ {R : Type} (c : K) (x : El c) (p : List Step) (k : T → Option R), getE c x p k = (getE c x p some).bind k
  | _, c, x, [], k => by cases c <;> rfl
  | _, .cons a b, x, .fld 0 :: p, k => by simp only [getE]; exact getE_nat a x.1 p k
  | _, .cons a b, x, .fld (j + 1) :: p, k => by simp only [getE]; exact getE_nat b x.2 (.fld j :: p) k
  | _, .arr n e, x, .idx i :: p, k => by
    simp only [getE]
    rw [nthK_nat x i, nthK_nat x i (fun y => getE e y p some)]
    cases nthK x i some with
    | none => rfl
    | some y => exact getE_nat e y p k
  | _, .cons a b, x, .idx i :: p, k => by simp [getE]
  | _, .arr n e, x, .fld j :: p, k => by simp [getE]
  | _, .int _, x, .fld j :: p, k => by simp [getE]
  | _, .int _, x, .idx j :: p, k => by simp [getE]
  | _, .bool, x, .fld j :: p, k => by simp [getE]
  | _, .bool, x, .idx j :: p, k => by simp [getE]
  | _, .str, x, .fld j :: p, k => by simp [getE]
  | _, .str, x, .idx j :: p, k => by simp [getE]
  | _, .ref _, x, .fld j :: p, k => by simp [getE]
  | _, .ref _, x, .idx j :: p, k => by simp [getE]
  | _, .slice _, x, .fld j :: p, k => by simp [getE]
  | _, .slice _, x, .idx j :: p, k => by simp [getE]
  | _, .unit, x, .fld j :: p, k => by simp [getE]
  | _, .unit, x, .idx j :: p, k => by simp [getE]

theorem setD_nat : ∀ {R : Type} (c : K) (x : El c) (p : List Step) (t : T) (k : El c → Option R), setD c x p t k = (setD c x p t some).bind k
  | _, c, x, [], t, k => by cases c <;> (simp only [setD]; split <;> rfl)
  | _, .cons a b, x, .fld 0 :: p, t, k => by
    simp only [setD]
    rw [setD_nat a x.1 p t, setD_nat a x.1 p t (fun u => some (u, x.2))]
    cases setD a x.1 p t some <;> rfl
  | _, .cons a b, x, .fld (j + 1) :: p, t, k => by
    simp only [setD]
    rw [setD_nat b x.2 (.fld j :: p) t, setD_nat b x.2 (.fld j :: p) t (fun u => some (x.1, u))]
    cases setD b x.2 (.fld j :: p) t some <;> rfl
  | _, .arr n e, x, .idx i :: p, t, k => by
    simp only [setD]
    rw [natK_nat i, natK_nat i (fun n => nthN x n fun y => setD e y p t fun u => some (x.set n u))]
    cases natK i some with
    | none => rfl
    | some n =>
      simp only [Option.bind_some]
      rw [nthN_nat x n, nthN_nat x n (fun y => setD e y p t fun u => some (x.set n u))]
      cases nthN x n some with
      | none => rfl
      | some y =>
        simp only [Option.bind_some]
        rw [setD_nat e y p t, setD_nat e y p t (fun u => some (x.set n u))]
        cases setD e y p t some <;> rfl
  | _, .cons a b, x, .idx i :: p, t, k => by simp [setD]
  | _, .arr n e, x, .fld j :: p, t, k => by simp [setD]
  | _, .int _, x, .fld j :: p, t, k => by simp [setD]
  | _, .int _, x, .idx j :: p, t, k => by simp [setD]
  | _, .bool, x, .fld j :: p, t, k => by simp [setD]
  | _, .bool, x, .idx j :: p, t, k => by simp [setD]
  | _, .str, x, .fld j :: p, t, k => by simp [setD]
  | _, .str, x, .idx j :: p, t, k => by simp [setD]
  | _, .ref _, x, .fld j :: p, t, k => by simp [setD]
  | _, .ref _, x, .idx j :: p, t, k => by simp [setD]
  | _, .slice _, x, .fld j :: p, t, k => by simp [setD]
  | _, .slice _, x, .idx j :: p, t, k => by simp [setD]
  | _, .unit, x, .fld j :: p, t, k => by simp [setD]
  | _, .unit, x, .idx j :: p, t, k => by simp [setD]

theorem setV_nat : ∀ {R : Type} (c : K) (x : El c) (p : List Step) (t : T) (k : T → Option R), setV c x p t k = (setV c x p t some).bind k
  | _, c, x, [], t, k => by cases c <;> (simp only [setV]; exact bif_nat _ _ _)
  | _, .cons a b, x, .fld 0 :: p, t, k => by
    simp only [setV]
    rw [setV_nat a x.1 p t, setV_nat a x.1 p t (fun u => some (T.mk2 u (.val b x.2)))]
    cases setV a x.1 p t some <;> rfl
  | _, .cons a b, x, .fld (j + 1) :: p, t, k => by
    simp only [setV]
    rw [setV_nat b x.2 (.fld j :: p) t, setV_nat b x.2 (.fld j :: p) t (fun u => some (T.mk2 (.val a x.1) u))]
    cases setV b x.2 (.fld j :: p) t some <;> rfl
  | _, .arr n e, x, .idx i :: p, t, k => by
    simp only [setV]
    rw [setD_nat (.arr n e) x (.idx i :: p) t, setD_nat (.arr n e) x (.idx i :: p) t (fun u => some (T.val (.arr n e) u))]
    cases setD (.arr n e) x (.idx i :: p) t some <;> rfl
  | _, .cons a b, x, .idx i :: p, t, k => by simp [setV]
  | _, .arr n e, x, .fld j :: p, t, k => by simp [setV]
  | _, .int _, x, .fld j :: p, t, k => by simp [setV]
  | _, .int _, x, .idx j :: p, t, k => by simp [setV]
  | _, .bool, x, .fld j :: p, t, k => by simp [setV]
  | _, .bool, x, .idx j :: p, t, k => by simp [setV]
  | _, .str, x, .fld j :: p, t, k => by simp [setV]
  | _, .str, x, .idx j :: p, t, k => by simp [setV]
  | _, .ref _, x, .fld j :: p, t, k => by simp [setV]
  | _, .ref _, x, .idx j :: p, t, k => by simp [setV]
  | _, .slice _, x, .fld j :: p, t, k => by simp [setV]
  | _, .slice _, x, .idx j :: p, t, k => by simp [setV]
  | _, .unit, x, .fld j :: p, t, k => by simp [setV]
  | _, .unit, x, .idx j :: p, t, k => by simp [setV]

theorem setT_nil {R : Type} (c : K) (u t : T) (k : T → Option R) (h : ∀ c' x, u ≠ .val c' x) : setT c u [] t k = (bif t.fits c then k t else none) := by
  cases u <;> first | (exact absurd rfl (h _ _)) | (cases c <;> first | rfl | (rename_i n e; cases n <;> rfl))

theorem setT_nat (c : K) (u : T) (p : List Step) (t : T) : ∀ {R : Type} (k : T → Option R), setT c u p t k = (setT c u p t some).bind k := by
  induction u generalizing c p with
  | val c' x =>
    intro R k
    have e : ∀ k : T → Option R, setT c (.val c' x) p t k = setV c' x p t k := fun k => by cases c <;> first | rfl | (rename_i n e; cases n <;> rfl)
    have e2 : setT c (.val c' x) p t some = setV c' x p t some := by cases c <;> first | rfl | (rename_i n e; cases n <;> rfl)
    rw [e, e2]; exact setV_nat ..
  | pair x y ihx ihy =>
    intro R k
    cases p with
    | nil => rw [setT_nil _ _ _ _ (fun _ _ q => by cases q), setT_nil _ _ _ _ (fun _ _ q => by cases q)]; exact bif_nat _ _ _
    | cons q p =>
      cases c with
      | cons a b =>
        cases q with
        | fld j =>
          cases j with
          | zero =>
            simp only [setT]
            rw [ihx a p, ihx a p (fun u => some (T.mk2 u y))]
            cases setT a x p t some <;> rfl
          | succ j =>
            simp only [setT]
            rw [ihy b (.fld j :: p), ihy b (.fld j :: p) (fun u => some (T.mk2 x u))]
            cases setT b y (.fld j :: p) t some <;> rfl
        | idx i => simp [setT]
      | arr n e =>
        cases n with
        | zero => simp [setT]
        | succ n =>
          cases q with
          | fld j => simp [setT]
          | idx i =>
            cases i with
            | ofNat j =>
              cases j with
              | zero =>
                simp only [setT]
                rw [ihx e p, ihx e p (fun u => some (T.pair u y))]
                cases setT e x p t some <;> rfl
              | succ j =>
                simp only [setT]
                rw [ihy (.arr n e) (.idx (.ofNat j) :: p), ihy (.arr n e) (.idx (.ofNat j) :: p) (fun u => some (T.pair x u))]
                cases setT (.arr n e) y (.idx (.ofNat j) :: p) t some <;> rfl
            | negSucc j => simp [setT]
      | _ => simp [setT]
  | _ =>
    intro R k
    cases p with
    | nil => rw [setT_nil _ _ _ _ (fun _ _ q => by cases q), setT_nil _ _ _ _ (fun _ _ q => by cases q)]; exact bif_nat _ _ _
    | cons q p => cases c <;> simp [setT]

theorem settle_nat {R : Type} {σ : Sto} {ρ : Nat → Option (Nat × List Step)} : ∀ {j : Nat} {l : List (Option Obj)} {u : Ups} {k : Ups → Option R}, settle σ ρ j l u k = (settle σ ρ j l u some).bind k
  | j, [], u, k => rfl
  | j, o :: r, u, k => by
    simp only [settle]
    split
    · rfl
    · split <;> exact settle_nat
    · split
      · rw [setT_nat, setT_nat _ _ _ _ (fun v => settle _ _ _ _ _ some), Option.bind_assoc]
        congr 1
        funext v
        exact settle_nat
      · rfl
end
end Go.Proofs.D
