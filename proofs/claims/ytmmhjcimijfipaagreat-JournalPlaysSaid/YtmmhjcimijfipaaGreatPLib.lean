/- Plain laws of loops and of numbers that fit. -/
import Derived.Test.YtmmhjcimijfipaaGreatDRun
import GoSem.Claim
set_option linter.unusedVariables false
namespace Go.Proofs.D

theorem iterL_mono {V X : Type} {step : V → Option (V ⊕ X)} : ∀ {n m : Nat} {v : V} {x : X}, iterL step n v = some x → n ≤ m → iterL step m v = some x
  | 0, _, _, _, h, _ => by cases h
  | n + 1, 0, _, _, _, h => by omega
  | n + 1, m + 1, v, x, h, hl => by
    simp only [iterL] at h ⊢
    split at h
    · cases h
    · exact iterL_mono h (by omega)
    · exact h

theorem iterL_next {V X : Type} {step : V → Option (V ⊕ X)} {n : Nat} {v v' : V} (h : step v = some (.inl v')) : iterL step (n + 1) v = iterL step n v' := by simp only [iterL, h]
theorem iterL_done {V X : Type} {step : V → Option (V ⊕ X)} {n : Nat} {v : V} {x : X} (h : step v = some (.inr x)) : iterL step (n + 1) v = some x := by simp only [iterL, h]

theorem loopN_eq : loopN = 18446744073709551616 := rfl

/-- Numbers that fit stay. -/
theorem wrap_i64 {n : Int} (h1 : -9223372036854775808 ≤ n) (h2 : n < 9223372036854775808) : IntKind.i64.wrap n = n := by
  unfold IntKind.wrap
  simp only [IntKind.bits, IntKind.signed, Bool.true_and, decide_eq_true_eq, show (2 : Int) ^ 64 = 18446744073709551616 by decide, show (2 : Int) ^ (64 - 1) = 9223372036854775808 by decide]
  split <;> omega
theorem wrap_u8 {n : Int} (h1 : 0 ≤ n) (h2 : n < 256) : IntKind.u8.wrap n = n := by
  simp only [IntKind.wrap, IntKind.bits, IntKind.signed, Bool.false_and, Bool.false_eq_true, if_false, show (2 : Int) ^ 8 = 256 by decide]
  omega
theorem wf_i64 {n : Int} (h : (Lit.int .i64 n).wf = true) : -9223372036854775808 ≤ n ∧ n < 9223372036854775808 := by
  simp only [Lit.wf, Bool.and_eq_true, decide_eq_true_eq, show IntKind.i64.min = -9223372036854775808 by decide, show IntKind.i64.max = 9223372036854775807 by decide] at h
  omega
theorem wf_u8 {n : Int} (h : (Lit.int .u8 n).wf = true) : 0 ≤ n ∧ n < 256 := by
  simp only [Lit.wf, Bool.and_eq_true, decide_eq_true_eq, show IntKind.u8.min = 0 by decide, show IntKind.u8.max = 255 by decide] at h
  omega
theorem wf_u32 {n : Int} (h : (Lit.int .u32 n).wf = true) : 0 ≤ n ∧ n < 4294967296 := by
  simp only [Lit.wf, Bool.and_eq_true, decide_eq_true_eq, show IntKind.u32.min = 0 by decide, show IntKind.u32.max = 4294967295 by decide] at h
  omega

/-! ### Loops that look at each element -/
def allFrom (p : Nat → Bool) : Nat → Nat → Bool | _, 0 => true | i, k + 1 => p i && allFrom p (i + 1) k

theorem allFrom_iff {p : Nat → Bool} : ∀ {k i : Nat}, allFrom p i k = true ↔ ∀ j, i ≤ j → j < i + k → p j = true
  | 0, i => by simp [allFrom]; omega
  | k + 1, i => by
    simp only [allFrom, Bool.and_eq_true, allFrom_iff (k := k)]
    constructor
    · rintro ⟨h1, h2⟩ j h3 h4
      by_cases e : j = i
      · subst e; exact h1
      · exact h2 j (by omega) (by omega)
    · intro h
      exact ⟨h i (by omega) (by omega), fun j h1 h2 => h j (by omega) (by omega)⟩

theorem iterL_all {V X : Type} {step : V → Option (V ⊕ X)} (st : Nat → V) (p : Nat → Bool) (x0 x1 : X) (len : Nat) (h1 : ∀ i, i < len → step (st i) = bif p i then some (.inl (st (i + 1))) else some (.inr x1)) (h2 : step (st len) = some (.inr x0)) :
    ∀ (k i : Nat), i + k = len → iterL step (k + 1) (st i) = some (bif allFrom p i k then x0 else x1)
  | 0, i, h => by
    have : i = len := by omega
    subst this
    exact iterL_done h2
  | k + 1, i, h => by
    have hs := h1 i (by omega)
    cases hp : p i with
    | true =>
      rw [hp] at hs
      rw [iterL_next hs, iterL_all st p x0 x1 len h1 h2 k (i + 1) (by omega)]
      simp [allFrom, hp]
    | false =>
      rw [hp] at hs
      rw [iterL_done hs]
      simp [allFrom, hp]

theorem loop_all {V X : Type} {step : V → Option (V ⊕ X)} (st : Nat → V) (p : Nat → Bool) (x0 x1 : X) (len : Nat) (hl : len < 18446744073709551615) (h1 : ∀ i, i < len → step (st i) = bif p i then some (.inl (st (i + 1))) else some (.inr x1)) (h2 : step (st len) = some (.inr x0)) :
    iterL step loopN (st 0) = some (bif allFrom p 0 len then x0 else x1) :=
  iterL_mono (iterL_all st p x0 x1 len h1 h2 len 0 (by omega)) (by rw [loopN_eq]; omega)

theorem nthN_get {α R : Type} {l : List α} {n : Nat} {x : α} {k : α → Option R} (h : l[n]? = some x) : nthN l n k = k x := by unfold nthN; rw [h]
theorem nthK_get {α R : Type} {l : List α} {n : Nat} {x : α} {k : α → Option R} (h : l[n]? = some x) : nthK l (n : Int) k = k x := by
  show nthN l n k = k x
  exact nthN_get h
theorem nthK_get0 {α R : Type} {l : List α} {x : α} {k : α → Option R} (h : l[0]? = some x) : nthK l 0 k = k x := nthN_get h
theorem chk_true {R : Type} {b : Bool} {x : Option R} (h : b = true) : chk b x = x := by rw [h]; rfl
theorem dec_t {p : Prop} [Decidable p] (h : p) : decide p = true := by simpa using h
theorem dec_f {p : Prop} [Decidable p] (h : ¬ p) : decide p = false := by simpa using h
theorem succ_i64 {n : Nat} (h : n < 9223372036854775807) : IntKind.i64.wrap ((n : Int) + 1) = ((n + 1 : Nat) : Int) := by
  rw [wrap_i64 (by omega) (by omega)]; omega

/-! ### Loops that gather -/
/-! ### Loops that look for one -/
/-! ### Any loop over a list -/
def walkL {α A X : Type} (f : Nat → α → A → A ⊕ X) (fin : A → X) : Nat → List α → A → X
  | _, [], acc => fin acc
  | i, x :: l, acc => match f i x acc with | .inl a => walkL f fin (i + 1) l a | .inr r => r

theorem iterL_walk {V X A α : Type} {step : V → Option (V ⊕ X)} (l : List α) (st : Nat → A → V) (f : Nat → α → A → A ⊕ X) (fin : A → X) (I : Nat → A → Prop)
    (h1 : ∀ i x acc, l[i]? = some x → I i acc → step (st i acc) = some (match f i x acc with | .inl a => .inl (st (i + 1) a) | .inr r => .inr r) ∧ ∀ a, f i x acc = .inl a → I (i + 1) a)
    (h2 : ∀ acc, I l.length acc → step (st l.length acc) = some (.inr (fin acc))) : ∀ (k i : Nat) (acc : A), i + k = l.length → I i acc → iterL step (k + 1) (st i acc) = some (walkL f fin i (l.drop i) acc)
  | 0, i, acc, h, hi => by
    have : i = l.length := by omega
    subst this
    rw [List.drop_length]
    exact iterL_done (h2 acc hi)
  | k + 1, i, acc, h, hi => by
    have hx : l[i]? = some l[i] := List.getElem?_eq_getElem (by omega)
    obtain ⟨g1, g2⟩ := h1 i l[i] acc hx hi
    rw [List.drop_eq_getElem_cons (by omega), walkL]
    cases hf : f i l[i] acc with
    | inl a => rw [hf] at g1; rw [iterL_next g1]; exact iterL_walk l st f fin I h1 h2 k (i + 1) a (by omega) (g2 a hf)
    | inr r => rw [hf] at g1; exact iterL_done g1

theorem loop_walk {V X A α : Type} {step : V → Option (V ⊕ X)} (l : List α) (st : Nat → A → V) (f : Nat → α → A → A ⊕ X) (fin : A → X) (I : Nat → A → Prop) (acc : A) (hl : l.length < 18446744073709551615) (hi : I 0 acc)
    (h1 : ∀ i x acc, l[i]? = some x → I i acc → step (st i acc) = some (match f i x acc with | .inl a => .inl (st (i + 1) a) | .inr r => .inr r) ∧ ∀ a, f i x acc = .inl a → I (i + 1) a)
    (h2 : ∀ acc, I l.length acc → step (st l.length acc) = some (.inr (fin acc))) : iterL step loopN (st 0 acc) = some (walkL f fin 0 l acc) :=
  iterL_mono (iterL_walk l st f fin I h1 h2 l.length 0 acc (by omega) hi) (by rw [loopN_eq]; omega)

theorem get_lt {α : Type} {l : List α} {i : Nat} {x : α} (h : l[i]? = some x) : i < l.length := (List.getElem?_eq_some_iff.mp h).1
theorem get_mem {α : Type} {l : List α} {i : Nat} {x : α} (h : l[i]? = some x) : x ∈ l := List.mem_of_getElem? h

/-- What a loop of gathering makes: of each element what it adds. -/
theorem walk_gather {α B X : Type} (g : α → List B) (fin : List B → X) : ∀ (l : List α) (i : Nat) (acc : List B), walkL (fun _ x acc => .inl (acc ++ g x)) fin i l acc = fin (acc ++ l.flatMap g)
  | [], _, acc => by simp [walkL]
  | x :: l, i, acc => by simp only [walkL, walk_gather g fin l (i + 1), List.flatMap_cons, List.append_assoc]


/-! ### Nested tests as one truth -/
theorem cond_some {α : Type} (b : Bool) (x y : α) : (bif b then some x else some y) = some (bif b then x else y) := by cases b <;> rfl
theorem fst_cond {α β : Type} (b : Bool) (x y : α × β) : (bif b then x else y).1 = bif b then x.1 else y.1 := by cases b <;> rfl
theorem snd_cond {α β : Type} (b : Bool) (x y : α × β) : (bif b then x else y).2 = bif b then x.2 else y.2 := by cases b <;> rfl
theorem cond_no (b x : Bool) : (bif b then x else false) = (b && x) := by cases b <;> rfl
theorem cond_yes (b x : Bool) : (bif b then true else x) = (b || x) := by cases b <;> rfl
theorem boolEq {p q : Bool} (h : p = true ↔ q = true) : p = q := by cases p <;> cases q <;> simp at h ⊢
theorem pred_i64 {n : Nat} (h : n < 9223372036854775807) : IntKind.i64.wrap (((n + 1 : Nat) : Int) - 1) = (n : Int) := by
  rw [wrap_i64 (by omega) (by omega)]; omega
theorem room_ok {R : Type} {n : Nat} {x : Option R} (h : n ≤ 4294967296) : room n x = x := by unfold room; rw [Nat.ble_eq_true_of_le h]; rfl
end Go.Proofs.D
