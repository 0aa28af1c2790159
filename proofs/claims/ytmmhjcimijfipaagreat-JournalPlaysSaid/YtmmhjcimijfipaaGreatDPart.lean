/- Parts of data and of slots: read at a path, put anew at a path, in the cells. -/
import Derived.Test.YtmmhjcimijfipaaGreatDCtx
set_option linter.unusedVariables false
set_option linter.unusedSimpArgs false
namespace Go.Proofs.D
open Go.RowKit

section
variable {w : World} {S : Cells} {m : Nat → Option MB} {R : Type}

/-! ### What fits -/
theorem bif_some {b : Bool} {x : Option R} {r : R} (h : (bif b then x else none) = some r) : b = true ∧ x = some r := by cases b with | false => cases h | true => exact ⟨rfl, h⟩
theorem chk_some {b : Bool} {x : Option R} {r : R} (h : chk b x = some r) : b = true ∧ x = some r := bif_some h

theorem castE_some {a b : K} {x : El a} {y : El b} (h : castE a b x = some y) : ∃ e : a = b, e ▸ x = y := by
  unfold castE at h; split at h
  · exact ⟨‹_›, Option.some.inj h⟩
  · cases h
theorem castE_self (a : K) (x : El a) : castE a a x = some x := by simp [castE]

theorem Rep.cast {a b : K} {x : El a} {y : El b} {cs : List Value} (h : castE a b x = some y) (hr : Rep w S a x cs) : Rep w S b y cs := by
  obtain ⟨e, h⟩ := castE_some h; subst e; subst h; exact hr

theorem natK_some {i : Int} {k : Nat → Option R} {r : R} (h : natK i k = some r) : ∃ n : Nat, i = n ∧ k n = some r := by
  unfold natK at h; split at h
  · exact ⟨_, rfl, h⟩
  · cases h
theorem nthN_some {α : Type} {l : List α} {n : Nat} {k : α → Option R} {r : R} (h : nthN l n k = some r) : ∃ x, l[n]? = some x ∧ k x = some r := by
  unfold nthN at h; split at h
  · exact ⟨_, by assumption, h⟩
  · cases h
theorem nthK_some {α : Type} {l : List α} {i : Int} {k : α → Option R} {r : R} (h : nthK l i k = some r) : ∃ (n : Nat) (x : α), i = n ∧ l[n]? = some x ∧ k x = some r := by
  obtain ⟨n, hi, h⟩ := natK_some h
  obtain ⟨x, hx, h⟩ := nthN_some h
  exact ⟨n, x, hi, hx, h⟩

theorem RepL.get {α : Type} {Q : α → List Value → Prop} {n : Nat} (hQ : ∀ x cs, Q x cs → cs.length = n) : ∀ {l : List α} {cs : List Value} {i : Nat} {x : α}, RepL Q l cs → l[i]? = some x →
    Q x ((cs.drop (i * n)).take n) ∧ i * n + n ≤ cs.length
  | [], cs, i, x, _, h => by simp at h
  | a :: l, cs, 0, x, ⟨c1, c2, e, h1, h2⟩, h => by
    simp at h; subst h; subst e
    have := hQ _ _ h1
    simp [this.symm, h1]
  | a :: l, cs, i + 1, x, ⟨c1, c2, e, h1, h2⟩, h => by
    subst e
    have hl := hQ _ _ h1
    obtain ⟨h3, h4⟩ := RepL.get hQ h2 (show l[i]? = some x by simpa using h)
    have e : (i + 1) * n = c1.length + i * n := by rw [hl, Nat.add_mul]; omega
    rw [e, List.drop_append, List.drop_of_length_le (show c1.length ≤ c1.length + i * n by omega)]
    simp only [Nat.add_sub_cancel_left, List.nil_append, List.length_append]
    exact ⟨h3, by omega⟩

/-- Cells with a stretch put anew. -/
def splice (cs : List Value) (o : Nat) (vs : List Value) : List Value := cs.take o ++ (vs ++ cs.drop (o + vs.length))

theorem splice_length {cs : List Value} {o : Nat} {vs : List Value} (h : o + vs.length ≤ cs.length) : (splice cs o vs).length = cs.length := by
  simp [splice]; omega
theorem splice_left {c1 c2 : List Value} {o : Nat} {vs : List Value} (h : o + vs.length ≤ c1.length) : splice (c1 ++ c2) o vs = splice c1 o vs ++ c2 := by
  simp only [splice, List.take_append, List.drop_append, List.append_assoc]
  rw [show o - c1.length = 0 by omega, show o + vs.length - c1.length = 0 by omega]; simp
theorem splice_right {c1 c2 : List Value} {o : Nat} {vs : List Value} : splice (c1 ++ c2) (c1.length + o) vs = c1 ++ splice c2 o vs := by
  simp only [splice, List.take_append, List.drop_append, List.append_assoc]
  rw [List.take_of_length_le (by omega), List.drop_of_length_le (by omega)]
  simp [Nat.add_assoc]
theorem splice_all {cs vs : List Value} (h : vs.length = cs.length) : splice cs 0 vs = vs := by
  simp [splice, h]

theorem RepL.set {α : Type} {Q : α → List Value → Prop} {n : Nat} (hQ : ∀ x cs, Q x cs → cs.length = n) {f : List Value → List Value} (y : α) : ∀ {l : List α} {cs : List Value} {i : Nat} {x : α} {o : Nat} {vs : List Value},
    RepL Q l cs → l[i]? = some x → o + vs.length ≤ n → (∀ c, Q x c → Q y (splice c o vs)) → RepL Q (l.set i y) (splice cs (i * n + o) vs)
  | [], cs, i, x, o, vs, _, h, _, _ => by simp at h
  | a :: l, cs, 0, x, o, vs, ⟨c1, c2, e, h1, h2⟩, h, ho, hf => by
    simp at h; subst h; subst e
    have hl := hQ _ _ h1
    rw [Nat.zero_mul, Nat.zero_add, splice_left (by omega)]
    exact ⟨_, _, rfl, hf _ h1, h2⟩
  | a :: l, cs, i + 1, x, o, vs, ⟨c1, c2, e, h1, h2⟩, h, ho, hf => by
    subst e
    have hl := hQ _ _ h1
    have e : (i + 1) * n + o = c1.length + (i * n + o) := by rw [hl, Nat.add_mul]; omega
    rw [e, splice_right]
    exact ⟨_, _, rfl, h1, RepL.set (f := f) hQ y h2 (by simpa using h) ho hf⟩

theorem T.fits_any {c : K} {n : Nat} (h : (T.any n).fits c = true) : n = c.size := by
  cases c <;> simpa [T.fits] using h
theorem T.fits_val {c c' : K} {x : El c'} (h : (T.val c' x).fits c = true) : c = c' := by
  cases c <;> simpa [T.fits] using h

theorem RepC.length : ∀ {c : K} {t : T} {cs : List Value}, t.fits c = true → RepC w S m t cs → cs.length = c.size
  | c, .any n, cs, h, hr => by rw [T.fits_any h] at hr; exact hr.1
  | c, .val c' x, cs, h, hr => by have := T.fits_val h; subst this; exact Rep.length hr
  | .slice e, .nils e', cs, h, hr => by simp only [RepC] at hr; subst hr; rfl
  | .slice e, .row i, cs, h, hr => by obtain ⟨u, _, hr, _⟩ := hr; subst hr; rfl
  | .ref r, .nilr r', cs, h, hr => by rcases hr with ⟨_, hr⟩ | ⟨_, hr⟩ | ⟨_, hr⟩ <;> subst hr <;> rfl
  | .ref 0, .ptr i p, cs, h, hr => by obtain ⟨u, _, hr⟩ := hr; subst hr; rfl
  | .ref 0, .rptr c x, cs, h, hr => by obtain ⟨b, o, ds, hr, _⟩ := hr; subst hr; rfl
  | .ref 1, .mapr i, cs, h, hr => by obtain ⟨u, _, hr, _⟩ := hr; subst hr; rfl
  | .ref 2, .clo f c, cs, h, hr => by obtain ⟨vs, _, hr⟩ := hr; subst hr; rfl
  | .unit, .unit, cs, h, hr => by simp only [RepC] at hr; subst hr; rfl
  | .cons a b, .pair x y, cs, h, ⟨c1, c2, e, h1, h2⟩ => by
    simp only [T.fits, Bool.and_eq_true] at h
    subst e; rw [List.length_append, RepC.length h.1 h1, RepC.length h.2 h2]; rfl
  | .arr 0 e, .unit, cs, h, hr => by simp only [RepC] at hr; subst hr; simp [K.size]
  | .arr (n + 1) e, .pair x y, cs, h, ⟨c1, c2, e', h1, h2⟩ => by
    simp only [T.fits, Bool.and_eq_true] at h
    subst e'; rw [List.length_append, RepC.length h.1 h1, RepC.length h.2 h2]; simp only [K.size, Nat.add_mul]; omega

theorem RepC.one : ∀ {c : K} {t : T} {cs : List Value}, t.fits c = true → RepC w S m t cs → ∀ v ∈ cs, v.oneCell' = true
  | c, .any n, cs, h, hr => hr.2
  | c, .val c' x, cs, h, hr => Rep.one hr
  | .slice e, .nils e', cs, h, hr => by simp only [RepC] at hr; subst hr; simp [Value.oneCell']
  | .slice e, .row i, cs, h, hr => by obtain ⟨u, _, hr, A, n, cap, hu⟩ := hr; subst hr; simp [hu, Value.oneCell']
  | .ref r, .nilr r', cs, h, hr => by rcases hr with ⟨_, hr⟩ | ⟨_, hr⟩ | ⟨_, hr⟩ <;> subst hr <;> simp [Value.oneCell']
  | .ref 0, .ptr i p, cs, h, hr => by obtain ⟨u, _, hr⟩ := hr; subst hr; simp [Value.oneCell']
  | .ref 0, .rptr c x, cs, h, hr => by obtain ⟨b, o, ds, hr, _⟩ := hr; subst hr; simp [Value.oneCell']
  | .ref 1, .mapr i, cs, h, hr => by obtain ⟨u, _, hr, r, hu⟩ := hr; subst hr; simp [hu, Value.oneCell']
  | .ref 2, .clo f c, cs, h, hr => by obtain ⟨vs, _, hr⟩ := hr; subst hr; obtain ⟨g, p, q, e⟩ := cloV_form f vs; simp [e, Value.oneCell']
  | .unit, .unit, cs, h, hr => by simp only [RepC] at hr; subst hr; simp
  | .cons a b, .pair x y, cs, h, ⟨c1, c2, e, h1, h2⟩ => by
    simp only [T.fits, Bool.and_eq_true] at h
    subst e; intro v hv
    rcases List.mem_append.1 hv with h3 | h3
    · exact RepC.one h.1 h1 v h3
    · exact RepC.one h.2 h2 v h3
  | .arr 0 e, .unit, cs, h, hr => by simp only [RepC] at hr; subst hr; simp
  | .arr (n + 1) e, .pair x y, cs, h, ⟨c1, c2, e', h1, h2⟩ => by
    simp only [T.fits, Bool.and_eq_true] at h
    subst e'; intro v hv
    rcases List.mem_append.1 hv with h3 | h3
    · exact RepC.one h.1 h1 v h3
    · exact RepC.one h.2 h2 v h3

theorem T.fits_agg : ∀ {c : K} {t : T}, t.fits c = true → t.isAny = false → t.isAgg = c.isAgg
  | c, .any n, h, ha => by cases ha
  | c, .val c' x, h, _ => by rw [T.fits_val h]; rfl
  | .slice e, .nils e', _, _ => rfl
  | .slice e, .row i, _, _ => rfl
  | .ref r, .nilr r', _, _ => rfl
  | .ref 0, .ptr i p, _, _ => rfl
  | .ref 0, .rptr c x, _, _ => rfl
  | .ref 1, .mapr i, _, _ => rfl
  | .ref 2, .clo f c, _, _ => rfl
  | .unit, .unit, _, _ => rfl
  | .cons a b, .pair x y, _, _ => rfl
  | .arr 0 e, .unit, _, _ => rfl
  | .arr (n + 1) e, .pair x y, _, _ => rfl

/-- The cells of a value. -/
theorem cells_of_shut {agg : Bool} {cs : List Value} {v : Value} (h : Shut agg cs v) (h1 : ∀ x ∈ cs, x.oneCell' = true) : v.cells = cs.toArray := by
  unfold Shut at h
  cases agg with
  | true => simp only [if_true] at h; subst h; simp [Value.cells]
  | false =>
    simp only [Bool.false_eq_true, if_false] at h; subst h
    have := h1 v (by simp)
    cases v <;> simp_all [Value.cells, Value.oneCell']

/-! ### Reading at a path -/
theorem getE_ok : ∀ {c d : K} {x : El c} {p : List Step} {k : T → Option R} {r : R} {cs : List Value}, Rep w S c x cs → codeAt c p = some d → getE c x p k = some r →
    ∃ y : El d, k (.val d y) = some r ∧ Rep w S d y ((cs.drop (offK c p)).take d.size) ∧ offK c p + d.size ≤ c.size
  | c, d, x, [], k, r, cs, hr, hc, h => by
    simp only [codeAt, Option.some.injEq] at hc; subst hc
    have h' : k (.val c x) = some r := by cases c <;> simpa [getE] using h
    refine ⟨x, h', ?_, by simp [offK]⟩
    have := Rep.length hr
    rw [show offK c [] = 0 by cases c <;> rfl, List.drop_zero, ← this, List.take_length]; exact hr
  | .cons a b, d, x, .fld 0 :: p, k, r, cs, ⟨c1, c2, e, h1, h2⟩, hc, h => by
    simp only [codeAt] at hc; simp only [getE] at h
    obtain ⟨y, hk, hy, hl⟩ := getE_ok h1 hc h
    have hl1 := Rep.length h1
    subst e
    refine ⟨y, hk, ?_, by simp only [offK, K.size]; omega⟩
    simp only [offK]
    rw [List.drop_append, List.take_append, List.length_drop, show d.size - (c1.length - offK a p) = 0 by omega]; simpa using hy
  | .cons a b, d, x, .fld (j + 1) :: p, k, r, cs, ⟨c1, c2, e, h1, h2⟩, hc, h => by
    simp only [codeAt] at hc; simp only [getE] at h
    obtain ⟨y, hk, hy, hl⟩ := getE_ok h2 hc h
    have hl1 := Rep.length h1
    subst e
    refine ⟨y, hk, ?_, by simp only [offK, K.size]; omega⟩
    simp only [offK, ← hl1]
    rw [List.drop_append, List.drop_of_length_le (by omega)]; simpa using hy
  | .arr n e, d, x, .idx i :: p, k, r, cs, ⟨hn, hr⟩, hc, h => by
    simp only [codeAt] at hc; simp only [getE] at h
    obtain ⟨j, y, hi, hy, hg⟩ := nthK_some h
    subst hi
    obtain ⟨h3, h4⟩ := RepL.get (n := e.size) (fun _ _ h => Rep.length h) hr hy
    obtain ⟨z, hk, hz, hl⟩ := getE_ok h3 hc hg
    have hlen := RepL.length (n := e.size) (fun _ _ h => Rep.length h) hr
    refine ⟨z, hk, ?_, ?_⟩
    · simp only [offK, Int.toNat_natCast]
      rw [List.drop_take, List.take_take, List.drop_drop, show min d.size (e.size - offK e p) = d.size by omega] at hz
      exact hz
    · simp only [offK, Int.toNat_natCast, K.size, ← hn]; omega
  | .int _, d, x, _ :: _, k, r, cs, hr, hc, h => by simp [getE] at h
  | .bool, d, x, _ :: _, k, r, cs, hr, hc, h => by simp [getE] at h
  | .str, d, x, _ :: _, k, r, cs, hr, hc, h => by simp [getE] at h
  | .hdr, d, x, _ :: _, k, r, cs, hr, hc, h => by simp [getE] at h
  | .ref _, d, x, _ :: _, k, r, cs, hr, hc, h => by simp [getE] at h
  | .slice _, d, x, _ :: _, k, r, cs, hr, hc, h => by simp [getE] at h
  | .unit, d, x, _ :: _, k, r, cs, hr, hc, h => by simp [getE] at h
  | .cons _ _, d, x, .idx _ :: _, k, r, cs, hr, hc, h => by simp [codeAt] at hc
  | .arr _ _, d, x, .fld _ :: _, k, r, cs, hr, hc, h => by simp [codeAt] at hc

theorem getT_ok : ∀ {c d : K} {t : T} {p : List Step} {k : T → Option R} {r : R} {cs : List Value}, t.fits c = true → RepC w S m t cs → codeAt c p = some d → getT t p k = some r →
    ∃ y : T, k y = some r ∧ y.fits d = true ∧ RepC w S m y ((cs.drop (offK c p)).take d.size) ∧ offK c p + d.size ≤ c.size := by
  intro c d t
  induction t generalizing c d with
  | val c' x =>
    intro p k r cs hf hr hc h
    have := T.fits_val hf; subst this
    simp only [getT] at h
    obtain ⟨y, hk, hy, hl⟩ := getE_ok hr hc h
    exact ⟨_, hk, by cases d <;> simp [T.fits], hy, hl⟩
  | pair a b iha ihb =>
    intro p k r cs hf hr hc h
    match p with
    | [] =>
      simp only [codeAt, Option.some.injEq] at hc; subst hc
      simp only [getT] at h
      refine ⟨_, h, hf, ?_, by simp [offK]⟩
      rw [show offK c [] = 0 by cases c <;> rfl, List.drop_zero, ← RepC.length hf hr, List.take_length]; exact hr
    | .fld 0 :: p =>
      cases c <;> first | (simp [codeAt] at hc; done) | skip
      rename_i ca cb
      simp only [codeAt] at hc; simp only [getT] at h; simp only [T.fits, Bool.and_eq_true] at hf
      obtain ⟨c1, c2, e, h1, h2⟩ := hr
      obtain ⟨y, hk, hyf, hy, hl⟩ := iha hf.1 h1 hc h
      have hl1 := RepC.length hf.1 h1
      subst e
      refine ⟨y, hk, hyf, ?_, by simp only [offK, K.size]; omega⟩
      simp only [offK]
      rw [List.drop_append, List.take_append, List.length_drop, show d.size - (c1.length - offK ca p) = 0 by omega]; simpa using hy
    | .fld (j + 1) :: p =>
      cases c <;> first | (simp [codeAt] at hc; done) | skip
      rename_i ca cb
      simp only [codeAt] at hc; simp only [getT] at h; simp only [T.fits, Bool.and_eq_true] at hf
      obtain ⟨c1, c2, e, h1, h2⟩ := hr
      obtain ⟨y, hk, hyf, hy, hl⟩ := ihb hf.2 h2 hc h
      have hl1 := RepC.length hf.1 h1
      subst e
      refine ⟨y, hk, hyf, ?_, by simp only [offK, K.size]; omega⟩
      simp only [offK, ← hl1]
      rw [List.drop_append, List.drop_of_length_le (by omega)]; simpa using hy
    | .idx (.ofNat 0) :: p =>
      cases c <;> first | (simp [codeAt] at hc; done) | skip
      rename_i n e
      cases n with
      | zero => simp [T.fits] at hf
      | succ n =>
      simp only [codeAt] at hc; simp only [getT] at h; simp only [T.fits, Bool.and_eq_true] at hf
      obtain ⟨c1, c2, e', h1, h2⟩ := hr
      obtain ⟨y, hk, hyf, hy, hl⟩ := iha hf.1 h1 hc h
      have hl1 := RepC.length hf.1 h1
      subst e'
      refine ⟨y, hk, hyf, ?_, by simp only [offK, K.size, Nat.add_mul]; simp; omega⟩
      simp only [offK]
      simp only [Int.ofNat_eq_natCast, Int.toNat_natCast, Nat.zero_mul, Nat.zero_add]
      rw [List.drop_append, List.take_append, List.length_drop, show d.size - (c1.length - offK e p) = 0 by omega]; simpa using hy
    | .idx (.ofNat (j + 1)) :: p =>
      cases c <;> first | (simp [codeAt] at hc; done) | skip
      rename_i n e
      cases n with
      | zero => simp [T.fits] at hf
      | succ n =>
      simp only [codeAt] at hc; simp only [getT] at h; simp only [T.fits, Bool.and_eq_true] at hf
      obtain ⟨c1, c2, e', h1, h2⟩ := hr
      obtain ⟨y, hk, hyf, hy, hl⟩ := ihb hf.2 h2 (show codeAt (.arr n e) (.idx (.ofNat j) :: p) = some d from hc) h
      have hl1 := RepC.length hf.1 h1
      subst e'
      have eo : offK (.arr (n + 1) e) (.idx (.ofNat (j + 1)) :: p) = c1.length + offK (.arr n e) (.idx (.ofNat j) :: p) := by
        simp only [offK, Int.ofNat_eq_natCast, Int.toNat_natCast, Nat.add_mul, hl1]; omega
      refine ⟨y, hk, hyf, ?_, by rw [eo]; simp only [K.size, Nat.add_mul] at hl ⊢; omega⟩
      rw [eo, List.drop_append, List.drop_of_length_le (by omega)]; simpa using hy
    | .idx (.negSucc j) :: p => simp [getT] at h
  | _ =>
    intro p k r cs hf hr hc h
    match p with
    | [] =>
      simp only [codeAt, Option.some.injEq] at hc; subst hc
      simp only [getT] at h
      refine ⟨_, h, hf, ?_, by simp [offK]⟩
      rw [show offK c [] = 0 by cases c <;> rfl, List.drop_zero, ← RepC.length hf hr, List.take_length]; exact hr
    | q :: p => simp [getT] at h

/-! ### Putting anew -/
theorem T.un_ok : ∀ {c : K} {t : T} {y : El c} {cs : List Value}, t.un c = some y → RepC w S m t cs → Rep w S c y cs
  | c, .val c' x, y, cs, h, hr => by
    have h' : castE c' c x = some y := by cases c <;> simpa [T.un] using h
    exact Rep.cast h' hr
  | .slice e, .nils e', y, cs, h, hr => by
    simp only [T.un, Option.some.injEq] at h; subst h
    simp only [RepC] at hr; subst hr
    exact ⟨none, 0, rfl, Nat.le_refl _, fun i x hx => by simp at hx⟩
  | .unit, .unit, y, cs, h, hr => hr
  | .cons a b, .pair x y, z, cs, h, ⟨c1, c2, e, h1, h2⟩ => by
    simp only [T.un] at h
    obtain ⟨u, hu, h⟩ := Option.bind_eq_some_iff.1 h
    obtain ⟨v, hv, h⟩ := Option.bind_eq_some_iff.1 h
    cases h
    exact ⟨c1, c2, e, T.un_ok hu h1, T.un_ok hv h2⟩
  | .arr 0 e, .unit, y, cs, h, hr => by
    simp only [T.un, Option.some.injEq] at h; subst h
    exact ⟨rfl, hr⟩
  | .arr (n + 1) e, .pair x y, z, cs, h, ⟨c1, c2, e', h1, h2⟩ => by
    simp only [T.un] at h
    obtain ⟨u, hu, h⟩ := Option.bind_eq_some_iff.1 h
    obtain ⟨v, hv, h⟩ := Option.bind_eq_some_iff.1 h
    cases h
    obtain ⟨h3, h4⟩ := T.un_ok hv h2
    exact ⟨by simp [h3], c1, c2, e', T.un_ok hu h1, h4⟩

theorem mk2_ok {a b : T} {c1 c2 : List Value} (h1 : RepC w S m a c1) (h2 : RepC w S m b c2) : RepC w S m (.mk2 a b) (c1 ++ c2) := by
  unfold T.mk2
  split
  · exact ⟨c1, c2, rfl, h1, h2⟩
  · exact ⟨c1, c2, rfl, h1, h2⟩
theorem mk2_fits {a b : T} {ca cb : K} (h1 : a.fits ca = true) (h2 : b.fits cb = true) : (T.mk2 a b).fits (.cons ca cb) = true := by
  unfold T.mk2
  split
  · rw [T.fits_val h1, T.fits_val h2]; simp [T.fits]
  · simp [T.fits, h1, h2]

theorem fits_self (c : K) (x : El c) : (T.val c x).fits c = true := by cases c <;> simp [T.fits]

/-- What is put is a value of that shape. -/
def Leaf (t : T) (d : K) (vs : List Value) : Prop := vs.length = d.size ∧ (∀ z ∈ vs, z.oneCell' = true) ∧ (t.isAny = false → t.isAgg = d.isAgg)

theorem T.un_agg : ∀ {c : K} {t : T} {y : El c}, t.un c = some y → t.isAgg = c.isAgg
  | c, .val c' x, y, h => by
    have h' : castE c' c x = some y := by cases c <;> simpa [T.un] using h
    obtain ⟨e, _⟩ := castE_some h'; subst e; rfl
  | .slice e, .nils e', y, h => rfl
  | .unit, .unit, y, h => rfl
  | .cons a b, .pair x y, z, h => rfl
  | .arr 0 e, .unit, y, h => rfl
  | .arr (n + 1) e, .pair x y, z, h => rfl

theorem Leaf.of_un {t : T} {c : K} {y : El c} {vs : List Value} (h : t.un c = some y) (hr : RepC w S m t vs) : Leaf t c vs :=
  have hv := T.un_ok h hr
  ⟨Rep.length hv, Rep.one hv, fun _ => T.un_agg h⟩
theorem Leaf.of_fits {t : T} {c : K} {vs : List Value} (h : t.fits c = true) (hr : RepC w S m t vs) : Leaf t c vs := ⟨RepC.length h hr, RepC.one h hr, fun ha => T.fits_agg h ha⟩

theorem setD_nil (c : K) (x : El c) (t : T) (k : El c → Option R) : setD c x [] t k = (match t.un c with | some y => k y | none => none) := by cases c <;> rfl
theorem setV_nil (c : K) (x : El c) (t : T) (k : T → Option R) : setV c x [] t k = (bif t.fits c then k t else none) := by cases c <;> rfl

theorem setD_ok : ∀ {c d : K} {x : El c} {p : List Step} {t : T} {k : El c → Option R} {r : R} {vs : List Value}, codeAt c p = some d → RepC w S m t vs → setD c x p t k = some r →
    ∃ y : El c, k y = some r ∧ Leaf t d vs ∧ ∀ cs, Rep w S c x cs → Rep w S c y (splice cs (offK c p) vs) ∧ offK c p + d.size ≤ cs.length
  | c, d, x, [], t, k, r, vs, hc, hr, h => by
    simp only [codeAt, Option.some.injEq] at hc; subst hc
    rw [setD_nil] at h
    have h' := h
    split at h'
    · rename_i y hy
      have hv := T.un_ok hy hr
      refine ⟨y, h', Leaf.of_un hy hr, fun cs h1 => ?_⟩
      rw [show offK c [] = 0 by cases c <;> rfl, splice_all (by rw [Rep.length hv, Rep.length h1])]
      exact ⟨hv, by rw [Rep.length h1]; omega⟩
    · cases h'
  | .cons a b, d, x, .fld 0 :: p, t, k, r, vs, hc, hr, h => by
    simp only [codeAt] at hc; simp only [setD] at h
    obtain ⟨y, hk, hv, hy⟩ := setD_ok hc hr h
    refine ⟨_, hk, hv, ?_⟩
    rintro cs ⟨c1, c2, e, h1, h2⟩
    obtain ⟨h3, h4⟩ := hy c1 h1
    subst e
    simp only [offK]
    rw [splice_left (by have := hv.1; omega)]
    exact ⟨⟨_, _, rfl, h3, h2⟩, by simp; omega⟩
  | .cons a b, d, x, .fld (j + 1) :: p, t, k, r, vs, hc, hr, h => by
    simp only [codeAt] at hc; simp only [setD] at h
    obtain ⟨y, hk, hv, hy⟩ := setD_ok hc hr h
    refine ⟨_, hk, hv, ?_⟩
    rintro cs ⟨c1, c2, e, h1, h2⟩
    obtain ⟨h3, h4⟩ := hy c2 h2
    subst e
    simp only [offK, ← Rep.length h1]
    rw [splice_right]
    exact ⟨⟨_, _, rfl, h1, h3⟩, by simp; omega⟩
  | .arr n e, d, x, .idx i :: p, t, k, r, vs, hc, hr, h => by
    simp only [codeAt] at hc; simp only [setD] at h
    obtain ⟨j, hi, hg⟩ := natK_some h
    obtain ⟨y, hy, hg⟩ := nthN_some hg
    subst hi
    obtain ⟨z, hk, hv, hz⟩ := setD_ok hc hr hg
    refine ⟨_, hk, hv, ?_⟩
    rintro cs ⟨hn, h1⟩
    obtain ⟨h3, h4⟩ := RepL.get (n := e.size) (fun _ _ h => Rep.length h) h1 hy
    obtain ⟨h5, h6⟩ := hz _ h3
    have h7 := Rep.length h3
    simp only [offK, Int.toNat_natCast]
    refine ⟨⟨by simpa using hn, RepL.set (f := id) (n := e.size) (fun _ _ h => Rep.length h) z h1 hy (by have := hv.1; omega) fun c hc => (hz c hc).1⟩, by omega⟩
  | .int _, d, x, _ :: _, t, k, r, vs, hc, hr, h => by simp [setD] at h
  | .bool, d, x, _ :: _, t, k, r, vs, hc, hr, h => by simp [setD] at h
  | .str, d, x, _ :: _, t, k, r, vs, hc, hr, h => by simp [setD] at h
  | .hdr, d, x, _ :: _, t, k, r, vs, hc, hr, h => by simp [setD] at h
  | .ref _, d, x, _ :: _, t, k, r, vs, hc, hr, h => by simp [setD] at h
  | .slice _, d, x, _ :: _, t, k, r, vs, hc, hr, h => by simp [setD] at h
  | .unit, d, x, _ :: _, t, k, r, vs, hc, hr, h => by simp [setD] at h
  | .cons _ _, d, x, .idx _ :: _, t, k, r, vs, hc, hr, h => by simp [codeAt] at hc
  | .arr _ _, d, x, .fld _ :: _, t, k, r, vs, hc, hr, h => by simp [codeAt] at hc

theorem setV_ok : ∀ {c d : K} {x : El c} {p : List Step} {t : T} {k : T → Option R} {r : R} {vs : List Value}, codeAt c p = some d → RepC w S m t vs → setV c x p t k = some r →
    ∃ y : T, k y = some r ∧ Leaf t d vs ∧ y.fits c = true ∧ ∀ cs, Rep w S c x cs → RepC w S m y (splice cs (offK c p) vs) ∧ offK c p + d.size ≤ cs.length
  | c, d, x, [], t, k, r, vs, hc, hr, h => by
    simp only [codeAt, Option.some.injEq] at hc; subst hc
    rw [setV_nil] at h
    obtain ⟨hf, h'⟩ := bif_some h
    refine ⟨t, h', Leaf.of_fits hf hr, hf, fun cs h1 => ?_⟩
    rw [show offK c [] = 0 by cases c <;> rfl, splice_all (by rw [RepC.length hf hr, Rep.length h1])]
    exact ⟨hr, by rw [Rep.length h1]; omega⟩
  | .cons a b, d, x, .fld 0 :: p, t, k, r, vs, hc, hr, h => by
    simp only [codeAt] at hc; simp only [setV] at h
    obtain ⟨y, hk, hv, hf, hy⟩ := setV_ok hc hr h
    refine ⟨_, hk, hv, mk2_fits hf (fits_self b x.2), ?_⟩
    rintro cs ⟨c1, c2, e, h1, h2⟩
    obtain ⟨h3, h4⟩ := hy c1 h1
    subst e
    simp only [offK]
    rw [splice_left (by have := hv.1; omega)]
    exact ⟨mk2_ok h3 h2, by simp; omega⟩
  | .cons a b, d, x, .fld (j + 1) :: p, t, k, r, vs, hc, hr, h => by
    simp only [codeAt] at hc; simp only [setV] at h
    obtain ⟨y, hk, hv, hf, hy⟩ := setV_ok hc hr h
    refine ⟨_, hk, hv, mk2_fits (fits_self a x.1) hf, ?_⟩
    rintro cs ⟨c1, c2, e, h1, h2⟩
    obtain ⟨h3, h4⟩ := hy c2 h2
    subst e
    simp only [offK, ← Rep.length h1]
    rw [splice_right]
    exact ⟨mk2_ok (a := .val a x.1) h1 h3, by simp; omega⟩
  | .arr n e, d, x, .idx i :: p, t, k, r, vs, hc, hr, h => by
    simp only [setV] at h
    obtain ⟨y, hk, hv, hy⟩ := setD_ok hc hr h
    exact ⟨_, hk, hv, fits_self (.arr n e) y, hy⟩
  | .int _, d, x, _ :: _, t, k, r, vs, hc, hr, h => by simp [setV] at h
  | .bool, d, x, _ :: _, t, k, r, vs, hc, hr, h => by simp [setV] at h
  | .str, d, x, _ :: _, t, k, r, vs, hc, hr, h => by simp [setV] at h
  | .hdr, d, x, _ :: _, t, k, r, vs, hc, hr, h => by simp [setV] at h
  | .ref _, d, x, _ :: _, t, k, r, vs, hc, hr, h => by simp [setV] at h
  | .slice _, d, x, _ :: _, t, k, r, vs, hc, hr, h => by simp [setV] at h
  | .unit, d, x, _ :: _, t, k, r, vs, hc, hr, h => by simp [setV] at h
  | .cons _ _, d, x, .idx _ :: _, t, k, r, vs, hc, hr, h => by simp [codeAt] at hc
  | .arr _ _, d, x, .fld _ :: _, t, k, r, vs, hc, hr, h => by simp [codeAt] at hc

end
end Go.Proofs.D

/- Parts of slots put anew; zero values; fields. -/
namespace Go.Proofs.D
open Go.RowKit

section
variable {w : World} {S : Cells} {m : Nat → Option MB} {R : Type}

theorem setT_ok : ∀ {t : T} {c d : K} {p : List Step} {v : T} {k : T → Option R} {r : R} {vs : List Value}, t.fits c = true → codeAt c p = some d → RepC w S m v vs → setT c t p v k = some r →
    ∃ y : T, k y = some r ∧ Leaf v d vs ∧ y.fits c = true ∧ ∀ cs, RepC w S m t cs → RepC w S m y (splice cs (offK c p) vs) ∧ offK c p + d.size ≤ cs.length := by
  intro t
  have nilCase : ∀ {t : T} {c d : K} {v : T} {k : T → Option R} {r : R} {vs : List Value}, t.fits c = true → codeAt c [] = some d → RepC w S m v vs → (bif v.fits c then k v else none) = some r →
      ∃ y : T, k y = some r ∧ Leaf v d vs ∧ y.fits c = true ∧ ∀ cs, RepC w S m t cs → RepC w S m y (splice cs (offK c []) vs) ∧ offK c [] + d.size ≤ cs.length := by
    intro t c d v k r vs hf hc hv h
    simp only [codeAt, Option.some.injEq] at hc; subst hc
    obtain ⟨hvf, h⟩ := bif_some h
    refine ⟨v, h, Leaf.of_fits hvf hv, hvf, fun cs hr => ?_⟩
    rw [show offK c [] = 0 by cases c <;> rfl, splice_all (by rw [RepC.length hvf hv, RepC.length hf hr])]
    exact ⟨hv, by rw [RepC.length hf hr]; omega⟩
  induction t with
  | val c' x =>
    intro c d p v k r vs hf hc hv h
    have := T.fits_val hf; subst this
    have h' : setV c x p v k = some r := by cases c <;> exact h
    exact setV_ok hc hv h'
  | pair a b iha ihb =>
    intro c d p v k r vs hf hc hv h
    match p with
    | [] =>
      refine nilCase hf hc hv ?_
      cases c <;> first | exact h | (rename_i n e; cases n <;> exact h)
    | .fld 0 :: p =>
      cases c <;> first | (simp [codeAt] at hc; done) | skip
      rename_i ca cb
      simp only [codeAt] at hc; simp only [setT] at h; simp only [T.fits, Bool.and_eq_true] at hf
      obtain ⟨y, hk, hl, hyf, hy⟩ := iha hf.1 hc hv h
      refine ⟨_, hk, hl, mk2_fits hyf hf.2, ?_⟩
      rintro cs ⟨c1, c2, e, h1, h2⟩
      obtain ⟨h3, h4⟩ := hy c1 h1
      subst e
      simp only [offK]
      rw [splice_left (by have := hl.1; omega)]
      exact ⟨mk2_ok h3 h2, by simp; omega⟩
    | .fld (j + 1) :: p =>
      cases c <;> first | (simp [codeAt] at hc; done) | skip
      rename_i ca cb
      simp only [codeAt] at hc; simp only [setT] at h; simp only [T.fits, Bool.and_eq_true] at hf
      obtain ⟨y, hk, hl, hyf, hy⟩ := ihb hf.2 hc hv h
      refine ⟨_, hk, hl, mk2_fits hf.1 hyf, ?_⟩
      rintro cs ⟨c1, c2, e, h1, h2⟩
      obtain ⟨h3, h4⟩ := hy c2 h2
      subst e
      simp only [offK, ← RepC.length hf.1 h1]
      rw [splice_right]
      exact ⟨mk2_ok h1 h3, by simp; omega⟩
    | .idx (.ofNat 0) :: p =>
      cases c <;> first | (simp [codeAt] at hc; done) | skip
      rename_i n e
      cases n with
      | zero => simp [T.fits] at hf
      | succ n =>
      simp only [codeAt] at hc; simp only [setT] at h; simp only [T.fits, Bool.and_eq_true] at hf
      obtain ⟨y, hk, hl, hyf, hy⟩ := iha hf.1 hc hv h
      refine ⟨_, hk, hl, by simp [T.fits, hyf, hf.2], ?_⟩
      rintro cs ⟨c1, c2, e', h1, h2⟩
      obtain ⟨h3, h4⟩ := hy c1 h1
      subst e'
      simp only [offK, Int.ofNat_eq_natCast, Int.toNat_natCast, Nat.zero_mul, Nat.zero_add]
      rw [splice_left (by have := hl.1; omega)]
      exact ⟨⟨_, _, rfl, h3, h2⟩, by simp; omega⟩
    | .idx (.ofNat (j + 1)) :: p =>
      cases c <;> first | (simp [codeAt] at hc; done) | skip
      rename_i n e
      cases n with
      | zero => simp [T.fits] at hf
      | succ n =>
      simp only [codeAt] at hc; simp only [setT] at h; simp only [T.fits, Bool.and_eq_true] at hf
      obtain ⟨y, hk, hl, hyf, hy⟩ := ihb hf.2 (show codeAt (.arr n e) (.idx (.ofNat j) :: p) = some d from hc) hv h
      refine ⟨_, hk, hl, by simp [T.fits, hyf, hf.1], ?_⟩
      rintro cs ⟨c1, c2, e', h1, h2⟩
      obtain ⟨h3, h4⟩ := hy c2 h2
      have hl1 := RepC.length hf.1 h1
      subst e'
      have eo : offK (.arr (n + 1) e) (.idx (.ofNat (j + 1)) :: p) = c1.length + offK (.arr n e) (.idx (.ofNat j) :: p) := by
        simp only [offK, Int.ofNat_eq_natCast, Int.toNat_natCast, Nat.add_mul, hl1]; omega
      rw [eo, splice_right]
      refine ⟨⟨_, _, rfl, h1, h3⟩, ?_⟩
      rw [List.length_append]
      have := h4
      simp only [Int.ofNat_eq_natCast] at this ⊢
      omega
    | .idx (.negSucc j) :: p => cases c <;> first | (simp [setT] at h; done) | (rename_i n e; cases n <;> simp [setT] at h)
  | _ =>
    intro c d p v k r vs hf hc hv h
    match p with
    | [] => exact nilCase hf hc hv (by cases c <;> first | exact h | (rename_i n e; cases n <;> exact h))
    | q :: p => exfalso; cases c <;> first | (simp [setT] at h; done) | (rename_i n e; cases n <;> simp [setT] at h)

/-! ### Zero values -/
theorem RepL.replicate {α : Type} {Q : α → List Value → Prop} {x : α} {cs : List Value} (h : Q x cs) : ∀ n, RepL Q (List.replicate n x) (List.replicate n cs).flatten
  | 0 => rfl
  | n + 1 => ⟨cs, _, rfl, h, RepL.replicate h n⟩

theorem zeroE_ok : ∀ {c : K}, c.data = true → Rep w S c (zeroE c) (zcells c)
  | .int _, _ => rfl
  | .bool, _ => rfl
  | .str, _ => rfl
  | .hdr, _ => ⟨rfl, _, _, _, rfl⟩
  | .ref _, h => by cases h
  | .slice e, _ => ⟨none, 0, rfl, Nat.le_refl _, fun i x hx => by simp [zeroE] at hx⟩
  | .unit, _ => rfl
  | .cons a b, h => by
    simp only [K.data, Bool.and_eq_true] at h
    exact ⟨_, _, rfl, zeroE_ok h.1, zeroE_ok h.2⟩
  | .arr n e, h => ⟨by simp [zeroE], RepL.replicate (zeroE_ok (by simpa [K.data] using h)) n⟩

theorem K.data_of_flat : ∀ {c : K}, c.flat = true → c.data = true
  | .int _, _ => rfl
  | .bool, _ => rfl
  | .str, _ => rfl
  | .hdr, h => by cases h
  | .ref _, h => by cases h
  | .slice e, h => by cases h
  | .unit, _ => rfl
  | .cons a b, h => by
    simp only [K.flat, Bool.and_eq_true] at h
    simp [K.data, K.data_of_flat h.1, K.data_of_flat h.2]
  | .arr n e, h => by
    simp only [K.flat] at h
    simp [K.data, K.data_of_flat h]

theorem zcells_length : ∀ c : K, (zcells c).length = c.size
  | .int _ => rfl | .bool => rfl | .str => rfl | .hdr => rfl | .slice _ => rfl | .unit => rfl
  | .ref 0 => rfl | .ref 1 => rfl | .ref (n + 2) => rfl
  | .cons a b => by simp [zcells, K.size, zcells_length a, zcells_length b]
  | .arr n e => by simp [zcells, K.size, zcells_length e]

theorem chain_ok {e : K} {t : T} {cs : List Value} (hf : t.fits e = true) (hr : RepC w S m t cs) : ∀ n, RepC w S m (zeroT.chain n t) (List.replicate n cs).flatten ∧ (zeroT.chain n t).fits (.arr n e) = true
  | 0 => ⟨rfl, rfl⟩
  | n + 1 => ⟨⟨cs, _, rfl, hr, (chain_ok hf hr n).1⟩, by simp [zeroT.chain, T.fits, hf, (chain_ok hf hr n).2]⟩

theorem zeroT_ok : ∀ c : K, RepC w S m (zeroT c) (zcells c) ∧ (zeroT c).fits c = true
  | .int _ => ⟨rfl, by simp [zeroT, T.fits]⟩
  | .bool => ⟨rfl, by simp [zeroT, T.fits]⟩
  | .str => ⟨rfl, by simp [zeroT, T.fits]⟩
  | .hdr => ⟨⟨rfl, _, _, _, rfl⟩, by simp [zeroT, T.fits]⟩
  | .ref 0 => ⟨.inl ⟨rfl, rfl⟩, by simp [zeroT, T.fits]⟩
  | .ref 1 => ⟨.inr (.inl ⟨rfl, rfl⟩), by simp [zeroT, T.fits]⟩
  | .ref (n + 2) => ⟨.inr (.inr ⟨by omega, rfl⟩), by simp [zeroT, T.fits]⟩
  | .slice e => ⟨rfl, by simp [zeroT, T.fits]⟩
  | .unit => ⟨rfl, by simp [zeroT, T.fits]⟩
  | .cons a b => ⟨mk2_ok (zeroT_ok a).1 (zeroT_ok b).1, mk2_fits (zeroT_ok a).2 (zeroT_ok b).2⟩
  | .arr n e => by
    simp only [zeroT]
    cases he : e.flat with
    | true => exact ⟨zeroE_ok (c := .arr n e) (K.data_of_flat (by simpa [K.flat] using he)), fits_self (.arr n e) _⟩
    | false => exact chain_ok (zeroT_ok e).2 (zeroT_ok e).1 n

theorem zcells_one (c : K) : ∀ v ∈ zcells c, v.oneCell' = true :=
  have h := zeroT_ok (w := default) (S := fun _ _ => False) (m := fun _ => none) c
  RepC.one h.2 h.1

end
end Go.Proofs.D
