/- The law ProgMoves. -/
import Derived.Test.YtlmponhpepcllaaFnMov
import Derived.Test.YtlmponhpepcllaaPLib
import Derived.Test.YtlmponhpepcllaaDOpen
set_option linter.unusedVariables false

/- What calc.Sum answers. -/
namespace Go.Proofs.Pure
open Go.Proofs.D Go.Proofs.F

def total : List Int → Int | [] => 0 | x :: l => x + total l
theorem total_append : ∀ (a b : List Int), total (a ++ b) = total a + total b
  | [], b => by simp [total]
  | x :: a, b => by simp only [List.cons_append, total, total_append a b]; omega

theorem wrap_u64 (n : Int) : IntKind.u64.wrap n = n % 18446744073709551616 := by
  simp only [IntKind.wrap, IntKind.bits, IntKind.signed, Bool.false_and, Bool.false_eq_true, if_false, show (2 : Int) ^ 64 = 18446744073709551616 by decide]

theorem add64_val {a b c : Int} (ha : 0 ≤ a) (hb : 0 ≤ b) (hc : c = 0 ∨ c = 1) : add64 a b c = some ((a + b + c) % 18446744073709551616, ((a + b + c) / 18446744073709551616, ())) := by
  obtain ⟨a, rfl⟩ := Int.eq_ofNat_of_zero_le ha
  obtain ⟨b, rfl⟩ := Int.eq_ofNat_of_zero_le hb
  rcases hc with e | e <;> subst e <;> rfl

theorem fdiv63 {e : Int} (h1 : -9223372036854775808 ≤ e) (h2 : e < 9223372036854775808) : Int.fdiv e (2 ^ 63) = if e < 0 then -1 else 0 := by
  rw [show (2 : Int) ^ 63 = 9223372036854775808 by decide, Int.fdiv_eq_ediv_of_nonneg _ (by omega)]
  split <;> omega

/-- One number more, in two halves. -/
theorem sum_step {s e : Int} (h1 : -9223372036854775808 ≤ e) (h2 : e < 9223372036854775808) :
    ((s % 18446744073709551616 + e % 18446744073709551616 + 0) % 18446744073709551616 = (s + e) % 18446744073709551616) ∧
    (((s / 18446744073709551616) % 18446744073709551616 + (if e < 0 then -1 else 0) % 18446744073709551616 + (s % 18446744073709551616 + e % 18446744073709551616 + 0) / 18446744073709551616) % 18446744073709551616 = ((s + e) / 18446744073709551616) % 18446744073709551616) ∧
    ((s % 18446744073709551616 + e % 18446744073709551616 + 0) / 18446744073709551616 = 0 ∨ (s % 18446744073709551616 + e % 18446744073709551616 + 0) / 18446744073709551616 = 1) := by
  split <;> omega

theorem sum_loop (l : List Int) (hl : l.length < 9223372036854775807) (hx : ∀ x ∈ l, -9223372036854775808 ≤ x ∧ x < 9223372036854775808) : ∀ (k j : Nat), j + k = l.length →
    iterL calc_Sum.l1 (k + 1) ((total (l.take j) / 18446744073709551616) % 18446744073709551616, (total (l.take j) % 18446744073709551616, (l, ((l.length : Int), (j : Int))))) =
      some ((total l / 18446744073709551616) % 18446744073709551616, total l % 18446744073709551616)
  | 0, j, h => by
    have e : l.take j = l := List.take_of_length_le (by omega)
    rw [e]
    refine iterL_done ?_
    unfold calc_Sum.l1
    simp only [dec_f (show ¬ (j : Int) < (l.length : Int) by omega), cond_false]
  | k + 1, j, h => by
    have hj : j < l.length := by omega
    have hget : l[j]? = some l[j] := List.getElem?_eq_getElem hj
    obtain ⟨b1, b2⟩ := hx l[j] (List.getElem_mem hj)
    have htake : total (l.take (j + 1)) = total (l.take j) + l[j] := by
      rw [List.take_add_one, hget, total_append]; simp [total]
    obtain ⟨s1, s2, s3⟩ := sum_step (s := total (l.take j)) b1 b2
    have hstep : calc_Sum.l1 ((total (l.take j) / 18446744073709551616) % 18446744073709551616, (total (l.take j) % 18446744073709551616, (l, ((l.length : Int), (j : Int))))) =
        some (.inl ((total (l.take (j + 1)) / 18446744073709551616) % 18446744073709551616, (total (l.take (j + 1)) % 18446744073709551616, (l, ((l.length : Int), ((j + 1 : Nat) : Int)))))) := by
      unfold calc_Sum.l1
      simp only [dec_t (show (j : Int) < (l.length : Int) by omega), cond_true]
      rw [nthK_get hget, fdiv63 b1 b2, wrap_u64, wrap_u64, add64_val (by omega) (by omega) (.inl rfl), Option.bind_some]
      simp only []
      rw [add64_val (by omega) (by omega) s3, Option.bind_some, succ_i64 (by omega), s1, s2, htake]
    rw [iterL_next hstep]
    exact sum_loop l hl hx k (j + 1) (by omega)

/-- All numbers together, if that fits. -/
theorem sum_val (l : List Int) (hl : l.length < 4611686018427387904) (hx : ∀ x ∈ l, -9223372036854775808 ≤ x ∧ x < 9223372036854775808) (h1 : -9223372036854775808 ≤ total l) (h2 : total l < 9223372036854775808) : calc_Sum l = some (total l, (true, ())) := by
  unfold calc_Sum
  have := iterL_mono (sum_loop l (by omega) hx l.length 0 (by omega)) (m := loopN) (by rw [loopN_eq]; omega)
  simp only [List.take_zero, total, show (0 : Int) / 18446744073709551616 % 18446744073709551616 = 0 by decide, show (0 : Int) % 18446744073709551616 = 0 by decide] at this
  rw [show (((0 : Nat) : Int)) = 0 from rfl] at this
  rw [this, Option.bind_some]
  have hw : IntKind.i64.wrap (total l % 18446744073709551616) = total l := by
    unfold IntKind.wrap
    simp only [IntKind.bits, IntKind.signed, Bool.true_and, decide_eq_true_eq, show (2 : Int) ^ 64 = 18446744073709551616 by decide, show (2 : Int) ^ (64 - 1) = 9223372036854775808 by decide]
    split <;> omega
  simp only [hw]
  rw [fdiv63 h1 h2, wrap_u64]
  have : (((if total l < 0 then -1 else 0 : Int) % 18446744073709551616 : Int) == total l / 18446744073709551616 % 18446744073709551616) = true := by
    rw [beq_iff_eq]
    split <;> omega
  rw [this]
  rfl

theorem total_bound : ∀ (l : List Int), (∀ x ∈ l, -9223372036854775808 ≤ x ∧ x < 9223372036854775808) → -9223372036854775808 * (l.length : Int) ≤ total l ∧ total l ≤ 9223372036854775808 * (l.length : Int)
  | [], _ => by simp [total]
  | x :: l, h => by
    have h1 := h x List.mem_cons_self
    have h2 := total_bound l fun y hy => h y (List.mem_cons_of_mem _ hy)
    simp only [total, List.length_cons, Int.natCast_add, Int.natCast_one]
    omega

def fitsI (n : Int) : Bool := decide (-9223372036854775808 ≤ n) && decide (n < 9223372036854775808)
/-- All numbers together, or that they do not fit. -/
def sumOf (l : List Int) : Int × Bool × Unit := if fitsI (total l) = true then (total l, (true, ())) else (0, (false, ()))

theorem sum_all (l : List Int) (hl : l.length < 1000000) (hx : ∀ x ∈ l, -9223372036854775808 ≤ x ∧ x < 9223372036854775808) : calc_Sum l = some (sumOf l) := by
  by_cases hf : fitsI (total l) = true
  · have h := hf
    unfold fitsI at h
    simp only [Bool.and_eq_true, decide_eq_true_eq] at h
    unfold sumOf
    rw [if_pos hf]
    exact sum_val l (by omega) hx h.1 h.2
  · unfold sumOf
    rw [if_neg hf]
    have hb := total_bound l hx
    have hlen : (l.length : Int) < 1000000 := by omega
    unfold calc_Sum
    have := iterL_mono (sum_loop l (by omega) hx l.length 0 (by omega)) (m := loopN) (by rw [loopN_eq]; omega)
    simp only [List.take_zero, total, show (0 : Int) / 18446744073709551616 % 18446744073709551616 = 0 by decide, show (0 : Int) % 18446744073709551616 = 0 by decide] at this
    rw [show (((0 : Nat) : Int)) = 0 from rfl] at this
    rw [this, Option.bind_some]
    have hnf : ¬ (-9223372036854775808 ≤ total l ∧ total l < 9223372036854775808) := fun q => hf (by unfold fitsI; simp [q.1, q.2])
    generalize hw : IntKind.i64.wrap (total l % 18446744073709551616) = r
    have hr : -9223372036854775808 ≤ r ∧ r < 9223372036854775808 ∧ ((r = total l % 18446744073709551616 ∧ total l % 18446744073709551616 < 9223372036854775808) ∨ (r = total l % 18446744073709551616 - 18446744073709551616 ∧ 9223372036854775808 ≤ total l % 18446744073709551616)) := by
      rw [← hw]
      unfold IntKind.wrap
      simp only [IntKind.bits, IntKind.signed, Bool.true_and, decide_eq_true_eq, show (2 : Int) ^ 64 = 18446744073709551616 by decide, show (2 : Int) ^ (64 - 1) = 9223372036854775808 by decide]
      split <;> omega
    rw [fdiv63 hr.1 hr.2.1, wrap_u64]
    have : (((if r < 0 then -1 else 0 : Int) % 18446744073709551616 : Int) == total l / 18446744073709551616 % 18446744073709551616) = false := by
      rw [beq_eq_false_iff_ne]
      split <;> omega
    rw [this]
    rfl
end Go.Proofs.Pure

/- What additions come to: op.Net. -/
namespace Go.Proofs.Pure
open Go.Proofs.D Go.Proofs.F

abbrev KE := Int × Int × Int × Unit
abbrev OpE := KE × Int × Unit

theorem eqK_refl (a : KE) : eqE kKey a a = true := by
  show ((a.1 == a.1) && ((a.2.1 == a.2.1) && ((a.2.2.1 == a.2.2.1) && true))) = true
  simp
theorem eqK_iff {a b : KE} : eqE kKey a b = true ↔ a = b := ⟨fun h => eqE_eq (c := kKey) rfl h, fun h => by rw [h]; exact eqK_refl b⟩
theorem eqK_ne {a b : KE} (h : a ≠ b) : eqE kKey a b = false := by
  cases hq : eqE kKey a b with
  | false => rfl
  | true => exact absurd (eqK_iff.1 hq) h
theorem eqO_iff {a b : OpE} : eqE kOp a b = true ↔ a = b := ⟨fun h => eqE_eq (c := kOp) rfl h, fun h => by
  rw [h]
  show (eqE kKey b.1 b.1 && ((b.2.1 == b.2.1) && true)) = true
  rw [eqK_refl]; simp⟩

/-- All that is added to a key. -/
def dl (l : List OpE) (k : KE) : List Int := (l.filter fun x => eqE kKey x.1 k).map fun x => x.2.1
def S (l : List OpE) (k : KE) : Int := total (dl l k)
theorem dl_nil (k : KE) : dl [] k = [] := rfl
theorem dl_cons (x : OpE) (l : List OpE) (k : KE) : dl (x :: l) k = if x.1 = k then x.2.1 :: dl l k else dl l k := by
  unfold dl
  by_cases h : x.1 = k
  · rw [if_pos h, List.filter_cons_of_pos (by simpa using eqK_iff.2 h)]; rfl
  · rw [if_neg h, List.filter_cons_of_neg (by simp [eqK_ne h])]
theorem dl_append (l l' : List OpE) (k : KE) : dl (l ++ l') k = dl l k ++ dl l' k := by
  unfold dl; rw [List.filter_append, List.map_append]
theorem S_append (l l' : List OpE) (k : KE) : S (l ++ l') k = S l k + S l' k := by
  unfold S; rw [dl_append, total_append]
theorem S_cons (x : OpE) (l : List OpE) (k : KE) : S (x :: l) k = (if x.1 = k then x.2.1 else 0) + S l k := by
  unfold S; rw [dl_cons]
  by_cases h : x.1 = k
  · rw [if_pos h, if_pos h]; rfl
  · rw [if_neg h, if_neg h, Int.zero_add]
theorem dl_mem {l : List OpE} {k : KE} {d : Int} (h : d ∈ dl l k) : ∃ x ∈ l, x.1 = k ∧ x.2.1 = d := by
  unfold dl at h
  obtain ⟨x, hx, e⟩ := List.mem_map.1 h
  obtain ⟨h1, h2⟩ := List.mem_filter.1 hx
  exact ⟨x, h1, eqK_iff.1 h2, e⟩
theorem dl_len (l : List OpE) (k : KE) : (dl l k).length ≤ l.length := by
  unfold dl; rw [List.length_map]; exact List.length_filter_le _ _
theorem dl_none {l : List OpE} {k : KE} (h : ∀ x ∈ l, x.1 ≠ k) : dl l k = [] := by
  unfold dl
  rw [List.filter_eq_nil_iff.2 fun x hx => by simp [eqK_ne (h x hx)]]; rfl

/-! ### The groups -/
abbrev kS : K := .slice (.int .i64)
abbrev EsE := List (KE × List Int)
def pMN (es : EsE) (y : KE) (z : List Int) : EsE := putM kKey kS es y z
def gMN (es : EsE) (k : KE) : List Int := getM kKey kS es k
def gA (es : EsE) (y : KE) (d : Int) : EsE := pMN es y (gMN es y ++ [d])
def gG : List OpE → EsE → EsE | [], es => es | x :: l, es => gG l (gA es x.1 x.2.1)
def keysE (es : EsE) : List KE := es.map fun p => p.1
theorem gG_eq : ∀ (l : List OpE) (es : EsE), grpGo (kk := kKey) l es = gG l es
  | [], es => rfl
  | x :: l, es => gG_eq l (gA es x.1 x.2.1)
theorem pM_cons (e : KE × List Int) (r : EsE) (y : KE) (z : List Int) : pMN (e :: r) y z = if y = e.1 then (y, z) :: r else e :: pMN r y z := by
  show (bif eqE kKey y e.1 then (y, z) :: r else e :: pMN r y z) = _
  by_cases h : y = e.1
  · rw [if_pos h, eqK_iff.2 h]; rfl
  · rw [if_neg h, eqK_ne h]; rfl
theorem gM_cons (e : KE × List Int) (r : EsE) (k : KE) : gMN (e :: r) k = if k = e.1 then e.2 else gMN r k := by
  show (bif eqE kKey k e.1 then e.2 else gMN r k) = _
  by_cases h : k = e.1
  · rw [if_pos h, eqK_iff.2 h]; rfl
  · rw [if_neg h, eqK_ne h]; rfl
theorem get_put (es : EsE) (y k : KE) (z : List Int) : gMN (pMN es y z) k = if k = y then z else gMN es k := by
  induction es with
  | nil =>
    show gMN [(y, z)] k = _
    rw [gM_cons]
  | cons e r ih =>
    rw [pM_cons]
    by_cases h : y = e.1
    · rw [if_pos h, gM_cons, gM_cons]
      by_cases h2 : k = y
      · rw [if_pos h2, if_pos h2]
      · rw [if_neg h2, if_neg h2, if_neg (by rw [← h]; exact h2)]
    · rw [if_neg h, gM_cons, gM_cons, ih]
      by_cases h2 : k = e.1
      · rw [if_pos h2, if_neg (by rw [h2]; exact fun q => h q.symm), if_pos h2]
      · rw [if_neg h2, if_neg h2]
theorem put_keys (es : EsE) (y : KE) (z : List Int) : keysE (pMN es y z) = if y ∈ keysE es then keysE es else keysE es ++ [y] := by
  induction es with
  | nil => rw [if_neg (by simp [keysE])]; rfl
  | cons e r ih =>
    rw [pM_cons]
    by_cases h : y = e.1
    · rw [if_pos h, if_pos (by simp [keysE, h])]
      show y :: keysE r = e.1 :: keysE r
      rw [h]
    · rw [if_neg h]
      show e.1 :: keysE (pMN r y z) = if y ∈ e.1 :: keysE r then e.1 :: keysE r else e.1 :: keysE r ++ [y]
      rw [ih]
      by_cases h2 : y ∈ keysE r
      · rw [if_pos h2, if_pos (List.mem_cons_of_mem _ h2)]
      · rw [if_neg h2, if_neg (fun q => (List.mem_cons.1 q).elim h h2)]; rfl
theorem pM_len (es : EsE) (y : KE) (z : List Int) : (pMN es y z).length ≤ es.length + 1 := by
  have := congrArg List.length (put_keys es y z)
  unfold keysE at this
  rw [List.length_map] at this
  rw [this]
  split <;> simp
theorem gG_len : ∀ (l : List OpE) (es : EsE), (gG l es).length ≤ es.length + l.length
  | [], es => Nat.le_refl _
  | x :: l, es => by
    have h1 := gG_len l (gA es x.1 x.2.1)
    have h2 : (gA es x.1 x.2.1).length ≤ es.length + 1 := pM_len _ _ _
    show (gG l (gA es x.1 x.2.1)).length ≤ _
    simp only [List.length_cons]; omega
theorem grp_get : ∀ (l : List OpE) (es : EsE) (k : KE), gMN (gG l es) k = gMN es k ++ dl l k
  | [], es, k => by rw [dl_nil, List.append_nil]; rfl
  | x :: l, es, k => by
    show gMN (gG l (gA es x.1 x.2.1)) k = _
    rw [grp_get l _ k, dl_cons]
    unfold gA
    rw [get_put]
    by_cases h : x.1 = k
    · rw [if_pos h, if_pos h.symm, h, List.append_assoc]; rfl
    · rw [if_neg h, if_neg (fun q => h q.symm)]
theorem grp_keys : ∀ (l : List OpE) (es : EsE), (keysE es).Nodup → (keysE (gG l es)).Nodup ∧ ∀ k, k ∈ keysE (gG l es) ↔ k ∈ keysE es ∨ ∃ x ∈ l, x.1 = k
  | [], es, h => ⟨h, fun k => by show k ∈ keysE es ↔ _; simp⟩
  | x :: l, es, h => by
    have hk := put_keys es x.1 (gMN es x.1 ++ [x.2.1])
    have hn : (keysE (gA es x.1 x.2.1)).Nodup := by
      unfold gA
      rw [hk]
      split
      · exact h
      · rename_i q
        exact List.nodup_append.2 ⟨h, by simp, fun a ha b hb e => by
          rw [List.mem_singleton] at hb
          subst hb; subst e; exact q ha⟩
    obtain ⟨h1, h2⟩ := grp_keys l _ hn
    refine ⟨h1, fun k => (h2 k).trans ?_⟩
    have : k ∈ keysE (gA es x.1 x.2.1) ↔ k ∈ keysE es ∨ x.1 = k := by
      unfold gA
      rw [hk]
      split
      · rename_i q
        exact ⟨.inl, fun r => r.elim id fun e => e ▸ q⟩
      · rw [List.mem_append, List.mem_singleton]
        exact ⟨fun r => r.imp id Eq.symm, fun r => r.imp id Eq.symm⟩
    rw [this]
    constructor
    · rintro ((q | q) | ⟨y, hy, q⟩)
      · exact .inl q
      · exact .inr ⟨x, List.mem_cons_self, q⟩
      · exact .inr ⟨y, List.mem_cons_of_mem _ hy, q⟩
    · rintro (q | ⟨y, hy, q⟩)
      · exact .inl (.inl q)
      · rcases List.mem_cons.1 hy with e | e
        · subst e; exact .inl (.inr q)
        · exact .inr ⟨y, e, q⟩

/-! ### Keys, in order -/
/-- Just the keys of some additions, each once, in order. -/
structure SK (l : List OpE) (ks : List KE) : Prop where
  sorted : ks.Pairwise fun a b => ltOf cmp3 a b = true
  mem : ∀ k, k ∈ ks ↔ ∃ x ∈ l, x.1 = k
theorem lt_asymm {a b : KE} (h : ltOf cmp3 a b = true) : ltOf cmp3 b a = false := by
  cases hq : ltOf cmp3 b a with
  | false => rfl
  | true => have := swo3.trans a b a h hq; rw [swo3.irrefl] at this; cases this
theorem sorted_nodup {ks : List KE} (h : ks.Pairwise fun a b => ltOf cmp3 a b = true) : ks.Nodup := h.imp fun {a b} q e => by
  subst e; rw [swo3.irrefl] at q; cases q
theorem sorted_unique {ks ks' : List KE} (h : ks.Pairwise fun a b => ltOf cmp3 a b = true) (h' : ks'.Pairwise fun a b => ltOf cmp3 a b = true) (hm : ∀ k, k ∈ ks ↔ k ∈ ks') : ks = ks' := by
  refine List.Perm.eq_of_pairwise (le := fun a b => ltOf cmp3 a b = true) (fun a b _ _ h1 h2 => ?_) h h' ((List.perm_ext_iff_of_nodup (sorted_nodup h) (sorted_nodup h')).2 hm)
  rw [lt_asymm h1] at h2; cases h2
theorem SK.unique {l l' : List OpE} {ks ks' : List KE} (h : SK l ks) (h' : SK l' ks') (hm : ∀ k, (∃ x ∈ l, x.1 = k) ↔ ∃ x ∈ l', x.1 = k) : ks = ks' :=
  sorted_unique h.sorted h'.sorted fun k => (h.mem k).trans ((hm k).trans (h'.mem k).symm)
theorem sort_SK (l : List OpE) : SK l ((keysE (gG l [])).mergeSort (leOf cmp3)) := by
  obtain ⟨h1, h2⟩ := grp_keys l [] List.nodup_nil
  have hp := List.mergeSort_perm (keysE (gG l [])) (leOf cmp3)
  refine ⟨?_, fun k => (hp.mem_iff).trans ((h2 k).trans ⟨fun q => q.elim (fun r => by cases r) id, .inr⟩)⟩
  have hn := hp.nodup_iff.2 h1
  have hs : ((keysE (gG l [])).mergeSort (leOf cmp3)).Pairwise fun a b => leOf cmp3 a b = true := List.pairwise_mergeSort (fun a b c q1 q2 => by
    unfold leOf at *
    simp only [Bool.not_eq_true'] at *
    exact swo3.ntrans c b a q2 q1) (fun a b => by
    unfold leOf
    cases q1 : ltOf cmp3 b a with
    | false => rfl
    | true => rw [lt_asymm q1]; rfl) _
  refine (hs.and hn).imp fun {a b} q => ?_
  obtain ⟨q1, q2⟩ := q
  unfold leOf at q1
  simp only [Bool.not_eq_true'] at q1
  cases hq : ltOf cmp3 a b with
  | true => rfl
  | false => exact absurd (tot3 a b hq q1) q2

/-! ### What comes of it -/
def netV (l : List OpE) (ks : List KE) : List OpE × Bool × Unit :=
  if ks.all (fun k => fitsI (S l k)) = true then (ks.filterMap (fun k => if S l k = 0 then none else some (k, (S l k, ()))), (true, ())) else ([], (false, ()))

abbrev netA := List OpE
theorem net_walk (f : KE → Int) : ∀ (ks : List KE) (i : Nat) (acc : List OpE), walkL (X := (Unit × List OpE × Unit) ⊕ (Unit × Bool)) (fun _ k acc => if fitsI (f k) = true then (if f k = 0 then .inl acc else .inl (acc ++ [(k, (f k, ()))])) else .inr (.inr ((), false))) (fun acc => .inl ((), (acc, ()))) i ks acc =
    if ks.all (fun k => fitsI (f k)) = true then .inl ((), (acc ++ ks.filterMap (fun k => if f k = 0 then none else some (k, (f k, ()))), ())) else .inr ((), false)
  | [], i, acc => by simp [walkL]
  | k :: ks, i, acc => by
    have e : ((k :: ks).all fun k => fitsI (f k)) = (fitsI (f k) && ks.all fun k => fitsI (f k)) := rfl
    rw [e]
    by_cases h1 : fitsI (f k) = true
    · rw [h1, Bool.true_and]
      by_cases h2 : f k = 0
      · have ew : ∀ r, walkL (X := (Unit × List OpE × Unit) ⊕ (Unit × Bool)) (fun _ k acc => if fitsI (f k) = true then (if f k = 0 then .inl acc else .inl (acc ++ [(k, (f k, ()))])) else .inr (.inr ((), false))) (fun acc => .inl ((), (acc, ()))) (i + 1) ks acc = r → walkL (X := (Unit × List OpE × Unit) ⊕ (Unit × Bool)) (fun _ k acc => if fitsI (f k) = true then (if f k = 0 then .inl acc else .inl (acc ++ [(k, (f k, ()))])) else .inr (.inr ((), false))) (fun acc => .inl ((), (acc, ()))) i (k :: ks) acc = r := fun r hr => by
          rw [walkL, if_pos h1, if_pos h2]; exact hr
        refine ew _ ?_
        rw [net_walk f ks, List.filterMap_cons_none (by rw [if_pos h2])]
      · have ew : ∀ r, walkL (X := (Unit × List OpE × Unit) ⊕ (Unit × Bool)) (fun _ k acc => if fitsI (f k) = true then (if f k = 0 then .inl acc else .inl (acc ++ [(k, (f k, ()))])) else .inr (.inr ((), false))) (fun acc => .inl ((), (acc, ()))) (i + 1) ks (acc ++ [(k, (f k, ()))]) = r → walkL (X := (Unit × List OpE × Unit) ⊕ (Unit × Bool)) (fun _ k acc => if fitsI (f k) = true then (if f k = 0 then .inl acc else .inl (acc ++ [(k, (f k, ()))])) else .inr (.inr ((), false))) (fun acc => .inl ((), (acc, ()))) i (k :: ks) acc = r := fun r hr => by
          rw [walkL, if_pos h1, if_neg h2]; exact hr
        refine ew _ ?_
        rw [net_walk f ks, List.filterMap_cons_some (by rw [if_neg h2]), List.append_assoc]; rfl
    · rw [walkL, if_neg h1]
      rw [show fitsI (f k) = false by simpa using h1, Bool.false_and]; rfl

theorem bind_of {A B : Type} {x : Option A} {a : A} {f : A → Option B} (h : x = some a) : x.bind f = f a := by rw [h]; rfl

theorem net_val {l : List OpE} {ks : List KE} (hw : ∀ x ∈ l, -9223372036854775808 ≤ x.2.1 ∧ x.2.1 < 9223372036854775808) (hl : l.length ≤ 1000) (hk : SK l ks) : op_Net l = some (netV l ks) := by
  have hks : ks = (keysE (gG l [])).mergeSort (leOf cmp3) := SK.unique hk (sort_SK l) fun _ => Iff.rfl
  have hg := gG_len l []
  simp only [List.length_nil, Nat.zero_add] at hg
  have e1 : grpG kKey (((), (false, ((), (l, ((l.length : Int), 0))))), ([], ())) = some (((), (false, ())), (gG l [], ())) := by
    show (bif decide ((l.length : Int) = (l.length : Int)) && (decide ((0 : Int) = 0) && (Nat.ble l.length 99999 && true)) then some (((), (false, ())), (grpGo (kk := kKey) l [], ())) else none) = _
    rw [dec_t rfl, dec_t rfl, Nat.ble_eq_true_of_le (show l.length ≤ 99999 by omega)]
    exact congrArg (fun es : EsE => some ((((), (false, ())) : Unit × Bool × Unit), ((es, ()) : EsE × Unit))) (gG_eq l [])
  have e2 : k8G kKey kS (leOf cmp3) (((), (false, ((), ()))), (gG l [], ())) = some (((), (false, ((), ((), (ks, ((ks.length : Int), 0)))))), (gG l [], ())) := by
    show (bif Nat.ble (gG l []).length 4294967296 then some (((), (false, ((), ((), ((keysE (gG l [])).mergeSort (leOf cmp3), ((((keysE (gG l [])).mergeSort (leOf cmp3)).length : Int), (0 : Int))))))), (gG l [], ())) else none) = _
    rw [Nat.ble_eq_true_of_le (show (gG l []).length ≤ 4294967296 by omega), ← hks]; rfl
  have hlen : ks.length ≤ 1000 := by
    rw [hks, List.length_mergeSort]
    show ((gG l []).map fun p => p.1).length ≤ 1000
    rw [List.length_map]; omega
  have hsum : ∀ k, calc_Sum (getM kKey kS (gG l []) k) = some (sumOf (dl l k)) := fun k => by
    have e : gMN (gG l []) k = dl l k := (grp_get l [] k).trans (List.nil_append _)
    refine (congrArg calc_Sum e).trans ?_
    refine sum_all _ (by have := dl_len l k; omega) fun d hd => ?_
    obtain ⟨x, hx, _, e⟩ := dl_mem hd
    rw [← e]; exact hw x hx
  have hlp := loop_walk (step := op_Net.l1) ks (fun i (acc : List OpE) => (((), ((), (ks, ((ks.length : Int), (i : Int))))), (gG l [], (acc, ())))) (X := (Unit × List OpE × Unit) ⊕ (Unit × Bool))
    (fun _ k acc => if fitsI (S l k) = true then (if S l k = 0 then .inl acc else .inl (acc ++ [(k, (S l k, ()))])) else .inr (.inr ((), false))) (fun acc => .inl ((), (acc, ()))) (fun i acc => acc.length ≤ i) [] (by omega) (Nat.le_refl _) (fun i k acc hx hi => by
    have hi2 := get_lt hx
    constructor
    · unfold op_Net.l1
      simp only [dec_t (show (i : Int) < (ks.length : Int) by omega), cond_true]
      rw [nthK_get hx]
      refine (bind_of (f := _) (hsum k)).trans ?_
      unfold sumOf
      by_cases h1 : fitsI (S l k) = true
      · rw [if_pos (show fitsI (total (dl l k)) = true from h1), if_pos h1]
        simp only [Bool.not_true, cond_false]
        by_cases h2 : S l k = 0
        · rw [if_pos h2, show ((total (dl l k) : Int) != 0) = false by rw [show total (dl l k) = 0 from h2]; rfl]
          simp only [cond_false]
          rw [succ_i64 (by omega)]
        · rw [if_neg h2, show ((total (dl l k) : Int) != 0) = true by have : total (dl l k) ≠ 0 := h2; simpa using this]
          simp only [cond_true]
          rw [room_ok (by simp only [List.length_cons, List.length_nil]; omega), succ_i64 (by omega)]; rfl
      · rw [if_neg (show ¬ fitsI (total (dl l k)) = true from h1), if_neg h1]; rfl
    · intro a ha
      by_cases h1 : fitsI (S l k) = true
      · rw [if_pos h1] at ha
        by_cases h2 : S l k = 0
        · rw [if_pos h2] at ha; cases ha; omega
        · rw [if_neg h2] at ha; cases ha; simp only [List.length_append, List.length_cons, List.length_nil]; omega
      · rw [if_neg h1] at ha; cases ha) (fun acc _ => by
    unfold op_Net.l1
    simp only [dec_f (show ¬ (ks.length : Int) < (ks.length : Int) by omega), cond_false])
  rw [show (((0 : Nat) : Int)) = 0 from rfl, net_walk (S l)] at hlp
  refine (bind_of (f := _) e1).trans ((bind_of (f := _) e2).trans ((bind_of (f := _) hlp).trans ?_))
  unfold netV
  by_cases h : ks.all (fun k => fitsI (S l k)) = true
  · rw [if_pos h, if_pos h]; rfl
  · rw [if_neg h, if_neg h]
theorem net_all {l : List OpE} (hw : ∀ x ∈ l, -9223372036854775808 ≤ x.2.1 ∧ x.2.1 < 9223372036854775808) (hl : l.length ≤ 1000) : ∃ ks, SK l ks ∧ op_Net l = some (netV l ks) := ⟨_, sort_SK l, net_val hw hl (sort_SK l)⟩
end Go.Proofs.Pure

/- What the reference's sum answers: the same. -/
namespace Go.Proofs.Pure
open Go.Proofs.D Go.Proofs.F

theorem halves_val {a : Int} (h1 : -9223372036854775808 ≤ a) (h2 : a < 9223372036854775808) : pledgeref01_halves a = some (a / 4294967296, (a % 4294967296, ())) := by
  unfold pledgeref01_halves pledgeref01_halves_v2
  by_cases h : a < 0
  · rw [dec_t h]
    have e1 : IntKind.i64.wrap (a + 1) = a + 1 := wrap_i64 (by omega) (by omega)
    have e2 : IntKind.i64.wrap (0 - (a + 1)) = -(a + 1) := by rw [wrap_i64 (by omega) (by omega)]; omega
    simp only [cond_true, e1, e2]
    rw [dec_f (by omega : ¬ -(a + 1) < 0)]
    simp only [cond_false, Option.bind_some]
    have e3 : Int.tdiv (-(a + 1)) 4294967296 = -(a + 1) / 4294967296 := Int.tdiv_eq_ediv_of_nonneg (by omega)
    have e4 : Int.tmod (-(a + 1)) 4294967296 = -(a + 1) % 4294967296 := Int.tmod_eq_emod_of_nonneg (by omega)
    have w1 : IntKind.i64.wrap (-(a + 1) / 4294967296) = -(a + 1) / 4294967296 := wrap_i64 (by omega) (by omega)
    have w2 : IntKind.i64.wrap (-1 - -(a + 1) / 4294967296) = -1 - -(a + 1) / 4294967296 := wrap_i64 (by omega) (by omega)
    have w3 : IntKind.i64.wrap (4294967295 - -(a + 1) % 4294967296) = 4294967295 - -(a + 1) % 4294967296 := wrap_i64 (by omega) (by omega)
    simp only [e3, e4, w1, w2, w3]
    have g1 : -1 - -(a + 1) / 4294967296 = a / 4294967296 := by omega
    have g2 : 4294967295 - -(a + 1) % 4294967296 = a % 4294967296 := by omega
    rw [g1, g2]
  · rw [dec_f h]
    have e3 : Int.tdiv a 4294967296 = a / 4294967296 := Int.tdiv_eq_ediv_of_nonneg (by omega)
    have e4 : Int.tmod a 4294967296 = a % 4294967296 := Int.tmod_eq_emod_of_nonneg (by omega)
    simp only [cond_false, e3, e4]
    rw [wrap_i64 (by omega) (by omega)]

theorem total_take (l : List Int) {j : Nat} (hj : j < l.length) : total (l.take (j + 1)) = total (l.take j) + l[j] := by
  rw [List.take_add_one, List.getElem?_eq_getElem hj, total_append]; simp [total]

theorem refsum_loop (l : List Int) (hl : l.length < 1000000) (hx : ∀ x ∈ l, -9223372036854775808 ≤ x ∧ x < 9223372036854775808) : ∀ (k j : Nat), j + k = l.length →
    iterL pledgeref01_Sum.l1 (k + 1) ((l, ((), (j : Int))), ((total (l.take j) / 4294967296, (total (l.take j) % 4294967296, ())), ())) = some ((), ((total l / 4294967296, (total l % 4294967296, ())), ()))
  | 0, j, h => by
    have e : l.take j = l := List.take_of_length_le (by omega)
    rw [e]
    refine iterL_done ?_
    unfold pledgeref01_Sum.l1
    simp only [dec_f (show ¬ (j : Int) < (l.length : Int) by omega), cond_false]
  | k + 1, j, h => by
    have hj : j < l.length := by omega
    have hget : l[j]? = some l[j] := List.getElem?_eq_getElem hj
    obtain ⟨b1, b2⟩ := hx l[j] (List.getElem_mem hj)
    have htake := total_take l hj
    have hb := total_bound (l.take j) fun x hx' => hx x (List.mem_of_mem_take hx')
    have hlen : ((l.take j).length : Int) < 1000000 := by rw [List.length_take]; omega
    generalize hT : total (l.take j) = t at hb htake
    have hstep : pledgeref01_Sum.l1 ((l, ((), (j : Int))), ((t / 4294967296, (t % 4294967296, ())), ())) = some (.inl ((l, ((), ((j + 1 : Nat) : Int))), ((total (l.take (j + 1)) / 4294967296, (total (l.take (j + 1)) % 4294967296, ())), ()))) := by
      unfold pledgeref01_Sum.l1
      simp only [dec_t (show (j : Int) < (l.length : Int) by omega), cond_true]
      rw [nthK_get hget, halves_val b1 b2, Option.bind_some, succ_i64 (by omega), htake]
      have e1 : IntKind.i64.wrap (t % 4294967296 + l[j] % 4294967296) = t % 4294967296 + l[j] % 4294967296 := wrap_i64 (by omega) (by omega)
      have e2 : IntKind.i64.wrap (t / 4294967296 + l[j] / 4294967296) = t / 4294967296 + l[j] / 4294967296 := wrap_i64 (by omega) (by omega)
      simp only [e1, e2]
      by_cases q : t % 4294967296 + l[j] % 4294967296 ≥ 4294967296
      · rw [dec_t q]
        simp only [cond_true]
        rw [wrap_i64 (n := t / 4294967296 + l[j] / 4294967296 + 1) (by omega) (by omega), wrap_i64 (n := t % 4294967296 + l[j] % 4294967296 - 4294967296) (by omega) (by omega)]
        rw [show t / 4294967296 + l[j] / 4294967296 + 1 = (t + l[j]) / 4294967296 by omega, show t % 4294967296 + l[j] % 4294967296 - 4294967296 = (t + l[j]) % 4294967296 by omega]
      · rw [dec_f q]
        simp only [cond_false]
        rw [show t / 4294967296 + l[j] / 4294967296 = (t + l[j]) / 4294967296 by omega, show t % 4294967296 + l[j] % 4294967296 = (t + l[j]) % 4294967296 by omega]
    rw [iterL_next hstep]
    exact refsum_loop l hl hx k (j + 1) (by omega)

theorem refsum_all (l : List Int) (hl : l.length < 1000000) (hx : ∀ x ∈ l, -9223372036854775808 ≤ x ∧ x < 9223372036854775808) : pledgeref01_Sum l = some (sumOf l) := by
  unfold pledgeref01_Sum sumOf fitsI
  have := iterL_mono (refsum_loop l hl hx l.length 0 (by omega)) (m := loopN) (by rw [loopN_eq]; omega)
  simp only [List.take_zero, total, show (0 : Int) / 4294967296 = 0 by decide, show (0 : Int) % 4294967296 = 0 by decide] at this
  rw [show (((0 : Nat) : Int)) = 0 from rfl] at this
  rw [this, Option.bind_some]
  have hb := total_bound l hx
  have hlen : (l.length : Int) < 1000000 := by omega
  simp only []
  by_cases h1 : total l / 4294967296 < -2147483648
  · rw [dec_t h1, dec_f (by omega : ¬ -9223372036854775808 ≤ total l)]; rfl
  · rw [dec_f h1]
    by_cases h2 : total l / 4294967296 > 2147483647
    · rw [dec_t h2, dec_f (by omega : ¬ total l < 9223372036854775808), Bool.and_false]; rfl
    · rw [dec_f h2, dec_t (by omega : -9223372036854775808 ≤ total l), dec_t (by omega : total l < 9223372036854775808)]
      simp only [cond_false, Bool.and_true, if_true]
      rw [wrap_i64 (n := total l / 4294967296 * 4294967296) (by omega) (by omega), wrap_i64 (by omega) (by omega), show total l / 4294967296 * 4294967296 + total l % 4294967296 = total l by omega]
end Go.Proofs.Pure

/- Lists of lines, of takes: which are the same. -/
namespace Go.Proofs.Pure
open Go.Proofs.D Go.Proofs.F

abbrev Ln := Int × Int × Unit
abbrev Stp := Int × Int × List Ln × Unit
def ln0 : Ln := (0, (0, ()))
def at0 (l : List Ln) (i : Nat) : Ln := l.getD i ln0
theorem at_get {l : List Ln} {i : Nat} (h : i < l.length) : l[i]? = some (at0 l i) := by
  unfold at0; rw [List.getD_eq_getElem?_getD, List.getElem?_eq_getElem h]; rfl

def sameL (x y : List Ln) : Bool := (x.length == y.length) && allFrom (fun i => eqE kLine (at0 x i) (at0 y i)) 0 x.length

theorem equal_val (x y : List Ln) (hx : x.length < 1000) : slices_Equal_api_Line_api_Line x y = some (sameL x y) := by
  unfold slices_Equal_api_Line_api_Line sameL
  by_cases h : x.length = y.length
  · have e : (((x.length : Int) : Int) != (y.length : Int)) = false := by simp [h]
    rw [e]
    simp only [cond_false]
    have := loop_all (step := slices_Equal_api_Line_api_Line.l1) (fun i => (x, (y, ((x.length : Int), (i : Int))))) (fun i => eqE kLine (at0 x i) (at0 y i)) (.inl ()) (.inr false) x.length (by omega) (fun i hi => by
      unfold slices_Equal_api_Line_api_Line.l1
      simp only [dec_t (show (i : Int) < (x.length : Int) by omega), cond_true]
      rw [nthK_get (at_get hi), nthK_get (at_get (by omega : i < y.length))]
      cases eqE kLine (at0 x i) (at0 y i) with
      | true => simp only [Bool.not_true, cond_false, cond_true]; rw [succ_i64 (by omega)]
      | false => rfl) (by
      unfold slices_Equal_api_Line_api_Line.l1
      simp only [dec_f (show ¬ (x.length : Int) < (x.length : Int) by omega), cond_false])
    rw [show (((0 : Nat) : Int)) = 0 from rfl] at this
    rw [this, Option.bind_some]
    rw [show (x.length == y.length) = true by simp [h], Bool.true_and]
    cases allFrom (fun i => eqE kLine (at0 x i) (at0 y i)) 0 x.length <;> rfl
  · have e : (((x.length : Int) : Int) != (y.length : Int)) = true := by simp; omega
    rw [e, show (x.length == y.length) = false by simp [h]]
    rfl

theorem ref_equal_val (x y : List Ln) (hx : x.length < 1000) : pledgeref12_SameLines x y = some (sameL x y) := by
  unfold pledgeref12_SameLines sameL
  by_cases h : x.length = y.length
  · have e : (((x.length : Int) : Int) != (y.length : Int)) = false := by simp [h]
    rw [e]
    simp only [cond_false]
    have := loop_all (step := pledgeref12_SameLines.l1) (fun i => (x, (y, (i : Int)))) (fun i => eqE kLine (at0 x i) (at0 y i)) (.inl ()) (.inr false) x.length (by omega) (fun i hi => by
      unfold pledgeref12_SameLines.l1
      simp only [dec_t (show (i : Int) < (x.length : Int) by omega), cond_true]
      rw [nthK_get (at_get hi), nthK_get (at_get (by omega : i < y.length))]
      cases eqE kLine (at0 x i) (at0 y i) with
      | true => simp only [Bool.not_true, cond_false, cond_true]; rw [succ_i64 (by omega)]
      | false => rfl) (by
      unfold pledgeref12_SameLines.l1
      simp only [dec_f (show ¬ (x.length : Int) < (x.length : Int) by omega), cond_false])
    rw [show (((0 : Nat) : Int)) = 0 from rfl] at this
    rw [this, Option.bind_some]
    rw [show (x.length == y.length) = true by simp [h], Bool.true_and]
    cases allFrom (fun i => eqE kLine (at0 x i) (at0 y i)) 0 x.length <;> rfl
  · have e : (((x.length : Int) : Int) != (y.length : Int)) = true := by simp; omega
    rw [e, show (x.length == y.length) = false by simp [h]]
    rfl

theorem eqLine_refl (a : Ln) : eqE kLine a a = true := by
  show ((a.1 == a.1) && ((a.2.1 == a.2.1) && true)) = true
  simp

theorem sameL_refl (x : List Ln) : sameL x x = true := by
  unfold sameL
  rw [show (x.length == x.length) = true by simp, Bool.true_and, allFrom_iff]
  exact fun j _ _ => eqLine_refl _


abbrev Tk := Int × Int × Int × Int × Unit
def tk0 : Tk := (0, (0, (0, (0, ()))))
def at1 (l : List Tk) (i : Nat) : Tk := l.getD i tk0
theorem at1_get {l : List Tk} {i : Nat} (h : i < l.length) : l[i]? = some (at1 l i) := by
  unfold at1; rw [List.getD_eq_getElem?_getD, List.getElem?_eq_getElem h]; rfl

def sameT (x y : List Tk) : Bool := (x.length == y.length) && allFrom (fun i => eqE kTake (at1 x i) (at1 y i)) 0 x.length

theorem equalT_val (x y : List Tk) (hx : x.length < 1000) : slices_Equal_api_Take_api_Take x y = some (sameT x y) := by
  unfold slices_Equal_api_Take_api_Take sameT
  by_cases h : x.length = y.length
  · have e : (((x.length : Int) : Int) != (y.length : Int)) = false := by simp [h]
    rw [e]
    simp only [cond_false]
    have := loop_all (step := slices_Equal_api_Take_api_Take.l1) (fun i => (x, (y, ((x.length : Int), (i : Int))))) (fun i => eqE kTake (at1 x i) (at1 y i)) (.inl ()) (.inr false) x.length (by omega) (fun i hi => by
      unfold slices_Equal_api_Take_api_Take.l1
      simp only [dec_t (show (i : Int) < (x.length : Int) by omega), cond_true]
      rw [nthK_get (at1_get hi), nthK_get (at1_get (by omega : i < y.length))]
      cases eqE kTake (at1 x i) (at1 y i) with
      | true => simp only [Bool.not_true, cond_false, cond_true]; rw [succ_i64 (by omega)]
      | false => rfl) (by
      unfold slices_Equal_api_Take_api_Take.l1
      simp only [dec_f (show ¬ (x.length : Int) < (x.length : Int) by omega), cond_false])
    rw [show (((0 : Nat) : Int)) = 0 from rfl] at this
    rw [this, Option.bind_some]
    rw [show (x.length == y.length) = true by simp [h], Bool.true_and]
    cases allFrom (fun i => eqE kTake (at1 x i) (at1 y i)) 0 x.length <;> rfl
  · have e : (((x.length : Int) : Int) != (y.length : Int)) = true := by simp; omega
    rw [e, show (x.length == y.length) = false by simp [h]]
    rfl

theorem ref_equalT_val (x y : List Tk) (hx : x.length < 1000) : pledgeref13_SameTakes x y = some (sameT x y) := by
  unfold pledgeref13_SameTakes sameT
  by_cases h : x.length = y.length
  · have e : (((x.length : Int) : Int) != (y.length : Int)) = false := by simp [h]
    rw [e]
    simp only [cond_false]
    have := loop_all (step := pledgeref13_SameTakes.l1) (fun i => (x, (y, (i : Int)))) (fun i => eqE kTake (at1 x i) (at1 y i)) (.inl ()) (.inr false) x.length (by omega) (fun i hi => by
      unfold pledgeref13_SameTakes.l1
      simp only [dec_t (show (i : Int) < (x.length : Int) by omega), cond_true]
      rw [nthK_get (at1_get hi), nthK_get (at1_get (by omega : i < y.length))]
      cases eqE kTake (at1 x i) (at1 y i) with
      | true => simp only [Bool.not_true, cond_false, cond_true]; rw [succ_i64 (by omega)]
      | false => rfl) (by
      unfold pledgeref13_SameTakes.l1
      simp only [dec_f (show ¬ (x.length : Int) < (x.length : Int) by omega), cond_false])
    rw [show (((0 : Nat) : Int)) = 0 from rfl] at this
    rw [this, Option.bind_some]
    rw [show (x.length == y.length) = true by simp [h], Bool.true_and]
    cases allFrom (fun i => eqE kTake (at1 x i) (at1 y i)) 0 x.length <;> rfl
  · have e : (((x.length : Int) : Int) != (y.length : Int)) = true := by simp; omega
    rw [e, show (x.length == y.length) = false by simp [h]]
    rfl

theorem eqTake_refl (a : Tk) : eqE kTake a a = true := by
  show ((a.1 == a.1) && ((a.2.1 == a.2.1) && ((a.2.2.1 == a.2.2.1) && ((a.2.2.2.1 == a.2.2.2.1) && true)))) = true
  simp

theorem sameT_refl (x : List Tk) : sameT x x = true := by
  unfold sameT
  rw [show (x.length == x.length) = true by simp, Bool.true_and, allFrom_iff]
  exact fun j _ _ => eqTake_refl _

end Go.Proofs.Pure

/- What takes and items name of an article. -/
namespace Go.Proofs.Pure
open Go.Proofs.D Go.Proofs.F

abbrev Ord := Int × Int × List Ln × List Tk × List Tk × List Ln × Unit

def ofTake (a : Int) (t : Tk) : List Int := bif t.2.1 == a then [t.2.2.2.1] else []
def ofLine (a : Int) (t : Ln) : List Int := bif t.1 == a then [t.2.1] else []
def namedOf (a : Int) (t : List Tk) (l : List Ln) : List Int := t.flatMap (ofTake a) ++ l.flatMap (ofLine a)

theorem ofTake_len (a : Int) (t : Tk) : (ofTake a t).length ≤ 1 := by unfold ofTake; cases (t.2.1 == a) <;> simp
theorem ofLine_len (a : Int) (t : Ln) : (ofLine a t).length ≤ 1 := by unfold ofLine; cases (t.1 == a) <;> simp
theorem flat_len {α B : Type} {g : α → List B} (h : ∀ x, (g x).length ≤ 1) : ∀ l : List α, (l.flatMap g).length ≤ l.length
  | [] => by simp
  | x :: l => by
    have := h x; have := flat_len h l
    simp only [List.flatMap_cons, List.length_append, List.length_cons]; omega

theorem ref_named_l1 (a : Int) (l : List Ln) (t : List Tk) (ht : t.length < 1000000) : iterL pledgeref13_Named.l1 loopN ((t, (l, (a, ((), 0)))), ([], ())) = some ((l, (a, ())), (t.flatMap (ofTake a), ())) := by
  have := loop_walk (step := pledgeref13_Named.l1) t (fun i (acc : List Int) => ((t, (l, (a, ((), (i : Int))))), (acc, ()))) (fun _ y acc => .inl (acc ++ ofTake a y)) (fun acc => ((l, (a, ())), (acc, ()))) (fun i acc => acc.length ≤ i) [] (by omega) (by simp) (fun i y acc hx hI => by
    have hi := get_lt hx
    refine ⟨?_, fun _ h => by cases h; have := ofTake_len a y; simp only [List.length_append]; omega⟩
    unfold pledgeref13_Named.l1 ofTake
    simp only [dec_t (show (i : Int) < (t.length : Int) by omega), cond_true]
    rw [nthK_get hx, nthK_get hx]
    cases (y.2.1 == a) with
    | true =>
      simp only [cond_true]
      rw [room_ok (by simp; omega), succ_i64 (by omega)]
    | false => simp only [cond_false, List.append_nil]; rw [succ_i64 (by omega)]) (fun acc _ => by
    unfold pledgeref13_Named.l1
    simp only [dec_f (show ¬ (t.length : Int) < (t.length : Int) by omega), cond_false])
  rw [show (((0 : Nat) : Int)) = 0 from rfl] at this
  rw [this, walk_gather, List.nil_append]

theorem ref_named_l2 (a : Int) (acc0 : List Int) (t : List Ln) (h0 : acc0.length < 1000000) (ht : t.length < 1000000) : iterL pledgeref13_Named.l2 loopN ((t, (a, ((), 0))), (acc0, ())) = some ((), (acc0 ++ t.flatMap (ofLine a), ())) := by
  have := loop_walk (step := pledgeref13_Named.l2) t (fun i (acc : List Int) => ((t, (a, ((), (i : Int)))), (acc, ()))) (fun _ y acc => .inl (acc ++ ofLine a y)) (fun acc => ((), (acc, ()))) (fun i acc => acc.length ≤ i + acc0.length) acc0 (by omega) (by simp) (fun i y acc hx hI => by
    have hi := get_lt hx
    refine ⟨?_, fun _ h => by cases h; have := ofLine_len a y; simp only [List.length_append]; omega⟩
    unfold pledgeref13_Named.l2 ofLine
    simp only [dec_t (show (i : Int) < (t.length : Int) by omega), cond_true]
    rw [nthK_get hx, nthK_get hx]
    cases (y.1 == a) with
    | true =>
      simp only [cond_true]
      rw [room_ok (by simp; omega), succ_i64 (by omega)]
    | false => simp only [cond_false, List.append_nil]; rw [succ_i64 (by omega)]) (fun acc _ => by
    unfold pledgeref13_Named.l2
    simp only [dec_f (show ¬ (t.length : Int) < (t.length : Int) by omega), cond_false])
  rw [show (((0 : Nat) : Int)) = 0 from rfl] at this
  rw [this, walk_gather]

theorem wfTake {t : Tk} (h : WfE kTake t) : -9223372036854775808 ≤ t.2.2.2.1 ∧ t.2.2.2.1 < 9223372036854775808 := wf_i64 h.2.2.2.1
theorem wfLine {t : Ln} (h : WfE kLine t) : -9223372036854775808 ≤ t.2.1 ∧ t.2.1 < 9223372036854775808 := wf_i64 h.2.1

theorem named_fit (a : Int) (t : List Tk) (l : List Ln) (ht : ∀ x ∈ t, WfE kTake x) (hl : ∀ x ∈ l, WfE kLine x) : ∀ n ∈ namedOf a t l, -9223372036854775808 ≤ n ∧ n < 9223372036854775808 := by
  intro n hn
  unfold namedOf at hn
  rcases List.mem_append.mp hn with h | h
  · obtain ⟨x, hx, h2⟩ := List.mem_flatMap.mp h
    unfold ofTake at h2
    cases e : (x.2.1 == a) <;> rw [e] at h2
    · exact absurd h2 List.not_mem_nil
    · rw [List.mem_singleton.mp h2]; exact wfTake (ht x hx)
  · obtain ⟨x, hx, h2⟩ := List.mem_flatMap.mp h
    unfold ofLine at h2
    cases e : (x.1 == a) <;> rw [e] at h2
    · exact absurd h2 List.not_mem_nil
    · rw [List.mem_singleton.mp h2]; exact wfLine (hl x hx)

theorem named_len (a : Int) (t : List Tk) (l : List Ln) : (namedOf a t l).length ≤ t.length + l.length := by
  unfold namedOf
  have := flat_len (ofTake_len a) t
  have := flat_len (ofLine_len a) l
  simp only [List.length_append]; omega

theorem sumOf_eta (l : List Int) : some ((sumOf l).1, ((sumOf l).2.1, ())) = some (sumOf l) := rfl

theorem refNamed_val (a : Int) (t : List Tk) (l : List Ln) (h1 : t.length < 400000) (h2 : l.length < 400000) (ht : ∀ x ∈ t, WfE kTake x) (hl : ∀ x ∈ l, WfE kLine x) : pledgeref13_Named t l a = some (sumOf (namedOf a t l)) := by
  unfold pledgeref13_Named
  have := flat_len (ofTake_len a) t
  rw [ref_named_l1 a l t (by omega), Option.bind_some]
  simp only []
  rw [ref_named_l2 a _ l (by omega) (by omega), Option.bind_some]
  have hn := named_len a t l
  rw [show t.flatMap (ofTake a) ++ l.flatMap (ofLine a) = namedOf a t l from rfl, refsum_all _ (by omega) (named_fit a t l ht hl)]
  rfl
end Go.Proofs.Pure

/- Lines, takes: which may be. -/
namespace Go.Proofs.Pure
open Go.Proofs.D Go.Proofs.F

abbrev Prg := Int × Int × Int × List Ln × List Tk × List Ln × Int × Int × Int × Int × Unit

theorem wfL {l : List Ln} (h : ∀ x ∈ l, WfE kLine x) {i : Nat} (hi : i < l.length) : (0 ≤ (at0 l i).1 ∧ (at0 l i).1 < 256) ∧ -9223372036854775808 ≤ (at0 l i).2.1 ∧ (at0 l i).2.1 < 9223372036854775808 := by
  have := h (at0 l i) (get_mem (at_get hi))
  exact ⟨wf_u8 this.1, wf_i64 this.2.1⟩
theorem wfT {l : List Tk} (h : ∀ x ∈ l, WfE kTake x) {i : Nat} (hi : i < l.length) : (0 ≤ (at1 l i).2.1 ∧ (at1 l i).2.1 < 256) ∧ (0 ≤ (at1 l i).2.2.1 ∧ (at1 l i).2.2.1 < 256) ∧ -9223372036854775808 ≤ (at1 l i).2.2.2.1 ∧ (at1 l i).2.2.2.1 < 9223372036854775808 := by
  have := h (at1 l i) (get_mem (at1_get hi))
  exact ⟨wf_u8 this.2.1, wf_u8 this.2.2.1, wf_i64 this.2.2.2.1⟩

/-! ### Lines -/
def lineR (s : Int) (l : List Ln) (i : Nat) : Bool := !decide ((at0 l i).1 ≥ s) && (!decide ((at0 l i).2.1 < 1) && (Nat.beq i 0 || !decide ((at0 l (i - 1)).1 ≥ (at0 l i).1)))
def linesB (s : Int) (l : List Ln) : Bool := allFrom (lineR s l) 0 l.length && decide ((l.length : Int) ≤ 3)

def lineBody {R : Type} (g : Int → Int) (l : List Ln) (s i : Int) (no yes : Option R) : Option R :=
  nthK l i fun e => bif decide (g e.1 ≥ s) then no else bif decide (e.2.1 < 1) then no else bif decide (i > 0) then nthK l (IntKind.i64.wrap (i - 1)) fun e' => bif decide (e'.1 ≥ e.1) then no else yes else yes

theorem lineBody_val {R : Type} (g : Int → Int) (l : List Ln) (s : Int) (i : Nat) (no yes : Option R) (hi : i < l.length) (hl : l.length < 1000) (hg : g (at0 l i).1 = (at0 l i).1) : lineBody g l s i no yes = bif lineR s l i then yes else no := by
  unfold lineBody lineR
  rw [nthK_get (at_get hi), hg]
  cases decide ((at0 l i).1 ≥ s) with
  | true => rfl
  | false =>
    cases decide ((at0 l i).2.1 < 1) with
    | true => rfl
    | false =>
      cases i with
      | zero => rfl
      | succ i =>
        rw [dec_t (by omega : ((i + 1 : Nat) : Int) > 0), pred_i64 (by omega)]
        simp only [cond_true, cond_false]
        rw [nthK_get (at_get (by omega : i < l.length)), show Nat.beq (i + 1) 0 = false from rfl, Nat.add_sub_cancel]
        cases decide ((at0 l i).1 ≥ (at0 l (i + 1)).1) <;> rfl

theorem wrapL {l : List Ln} (h : ∀ x ∈ l, WfE kLine x) {i : Nat} (hi : i < l.length) : IntKind.i64.wrap (at0 l i).1 = (at0 l i).1 := by
  have := wfL h hi
  exact wrap_i64 (by omega) (by omega)

theorem progLines_val (s : Int) (l : List Ln) (hl : l.length < 1000) (hw : ∀ x ∈ l, WfE kLine x) : prog_lines s l = some (linesB s l) := by
  unfold prog_lines linesB
  have := loop_all (step := prog_lines.l1) (fun i => (s, (l, (l, ((l.length : Int), (i : Int)))))) (lineR s l) (.inl l) (.inr false) l.length (by omega) (fun i hi => by
    have e : prog_lines.l1 (s, (l, (l, ((l.length : Int), (i : Int))))) = bif decide ((i : Int) < (l.length : Int)) then lineBody IntKind.i64.wrap l s i (some (.inr (.inr false))) (some (.inl (s, (l, (l, ((l.length : Int), IntKind.i64.wrap ((i : Int) + 1))))))) else some (.inr (.inl l)) := rfl
    rw [e, dec_t (show (i : Int) < (l.length : Int) by omega), lineBody_val _ l s i _ _ hi hl (wrapL hw hi), succ_i64 (by omega)]
    rfl) (by
    unfold prog_lines.l1
    simp only [dec_f (show ¬ (l.length : Int) < (l.length : Int) by omega), cond_false])
  rw [show (((0 : Nat) : Int)) = 0 from rfl] at this
  rw [this, Option.bind_some]
  cases allFrom (lineR s l) 0 l.length <;> rfl

theorem refLines_val (s : Int) (l : List Ln) (hl : l.length < 1000) (hw : ∀ x ∈ l, WfE kLine x) : pledgeref12_Lines s l = some (linesB s l) := by
  unfold pledgeref12_Lines linesB
  have := loop_all (step := pledgeref12_Lines.l1) (fun i => (s, (l, (i : Int)))) (lineR s l) (.inl l) (.inr false) l.length (by omega) (fun i hi => by
    unfold pledgeref12_Lines.l1
    simp only [dec_t (show (i : Int) < (l.length : Int) by omega), cond_true]
    have e : ∀ (no yes : Option ((Int × List Ln × Int) ⊕ (List Ln ⊕ Bool))), (nthK l (i : Int) fun e6 => bif decide ((IntKind.i64.wrap e6.1) ≥ s) then no else nthK l (i : Int) fun e7 => bif decide (e7.2.1 < 1) then no else bif decide ((i : Int) > 0) then nthK l (IntKind.i64.wrap ((i : Int) - 1)) fun e8 => nthK l (i : Int) fun e9 => bif decide (e8.1 ≥ e9.1) then no else yes else yes) = lineBody IntKind.i64.wrap l s i no yes := by
      intro no yes
      unfold lineBody
      rw [nthK_get (at_get hi), nthK_get (at_get hi), nthK_get (at_get hi)]
      congr 1
      congr 1
      cases i with
      | zero => rfl
      | succ i =>
        rw [dec_t (by omega : ((i + 1 : Nat) : Int) > 0), pred_i64 (by omega)]
        simp only [cond_true]
        rw [nthK_get (at_get (by omega : i < l.length)), nthK_get (at_get (by omega : i < l.length)), nthK_get (at_get hi)]
    rw [e, lineBody_val _ l s i _ _ hi hl (wrapL hw hi), succ_i64 (by omega)]) (by
    unfold pledgeref12_Lines.l1
    simp only [dec_f (show ¬ (l.length : Int) < (l.length : Int) by omega), cond_false])
  rw [show (((0 : Nat) : Int)) = 0 from rfl] at this
  rw [this, Option.bind_some]
  cases allFrom (lineR s l) 0 l.length <;> rfl

/-! ### Takes -/
def tkBase (s w id : Int) (x : Tk) : Bool := !(x.1 != id) && (!decide (x.2.1 ≥ s) && (!decide (x.2.2.1 ≥ w) && !decide (x.2.2.2.1 < 1)))
def tkPrev (y x : Tk) : Bool := !decide (y.2.2.1 > x.2.2.1) && !((y.2.2.1 == x.2.2.1) && decide (y.2.1 ≥ x.2.1))
def takeQ (s w id : Int) (l : List Tk) (i : Nat) : Bool := tkBase s w id (at1 l i) && (Nat.beq i 0 || tkPrev (at1 l (i - 1)) (at1 l i))
def takeR (s w id : Int) (l : List Tk) (i : Nat) : Bool := takeQ s w id l i && (Nat.ble i 2 || !((at1 l (i - 3)).2.2.1 == (at1 l i).2.2.1))
def takesB (s w id : Int) (l : List Tk) : Bool := allFrom (takeR s w id l) 0 l.length && decide ((l.length : Int) ≤ 12)

theorem wrapT {l : List Tk} (h : ∀ x ∈ l, WfE kTake x) {i : Nat} (hi : i < l.length) : IntKind.i64.wrap (at1 l i).2.1 = (at1 l i).2.1 ∧ IntKind.i64.wrap (at1 l i).2.2.1 = (at1 l i).2.2.1 := by
  have := wfT h hi
  exact ⟨wrap_i64 (by omega) (by omega), wrap_i64 (by omega) (by omega)⟩

theorem progTakes_val (s w : Int) (p : Prg) (hl : p.2.2.2.2.1.length < 1000) (hw : ∀ x ∈ p.2.2.2.2.1, WfE kTake x) : prog_takes s w p = some (takesB s w p.2.1 p.2.2.2.2.1) := by
  obtain ⟨kind, id, pol, lines, l, owes, rest⟩ := p
  simp only at hl hw ⊢
  unfold prog_takes takesB
  have := loop_all (step := prog_takes.l1) (fun i => ((s, (w, ((), (l, ((l.length : Int), (i : Int)))))), ((kind, id, pol, lines, l, owes, rest), ()))) (takeR s w id l) (.inl ((), ((kind, id, pol, lines, l, owes, rest), ()))) (.inr false) l.length (by omega) (fun i hi => by
    obtain ⟨w1, w2⟩ := wrapT hw hi
    unfold prog_takes.l1 takeR takeQ tkBase
    simp only [dec_t (show (i : Int) < (l.length : Int) by omega), cond_true]
    have w3 := succ_i64 (show i < 9223372036854775807 by omega)
    rw [nthK_get (at1_get hi), w1, w2]
    cases ((at1 l i).1 != id) with
    | true => rfl
    | false =>
      cases decide ((at1 l i).2.1 ≥ s) with
      | true => rfl
      | false =>
        cases decide ((at1 l i).2.2.1 ≥ w) with
        | true => rfl
        | false =>
          cases decide ((at1 l i).2.2.2.1 < 1) with
          | true => rfl
          | false =>
            simp only [cond_false, Bool.not_false, Bool.true_and]
            -- the one ahead
            have prev : ∀ (no yes : Option (((Int × Int × Unit × List Tk × Int × Int) × Prg × Unit) ⊕ ((Unit × Prg × Unit) ⊕ Bool))), (bif decide ((i : Int) > 0) then nthK l (IntKind.i64.wrap ((i : Int) - 1)) fun e33 => bif decide (e33.2.2.1 > (at1 l i).2.2.1) then no else nthK l (IntKind.i64.wrap ((i : Int) - 1)) fun e34 => bif e34.2.2.1 == (at1 l i).2.2.1 then nthK l (IntKind.i64.wrap ((i : Int) - 1)) fun e35 => bif decide (e35.2.1 ≥ (at1 l i).2.1) then no else yes else yes else yes) =
                bif (Nat.beq i 0 || tkPrev (at1 l (i - 1)) (at1 l i)) then yes else no := by
              intro no yes
              cases i with
              | zero => rfl
              | succ i =>
                rw [dec_t (by omega : ((i + 1 : Nat) : Int) > 0), pred_i64 (by omega)]
                have hi' := at1_get (by omega : i < l.length)
                simp only [cond_true]
                rw [nthK_get hi', nthK_get hi', nthK_get hi', show Nat.beq (i + 1) 0 = false from rfl, Nat.add_sub_cancel]
                unfold tkPrev
                cases decide ((at1 l i).2.2.1 > (at1 l (i + 1)).2.2.1) <;> cases ((at1 l i).2.2.1 == (at1 l (i + 1)).2.2.1) <;> cases decide ((at1 l i).2.1 ≥ (at1 l (i + 1)).2.1) <;> rfl
            by_cases h3 : i ≤ 2
            · rw [dec_f (by omega : ¬ (i : Int) ≥ 3), Nat.ble_eq_true_of_le h3]
              simp only [cond_false, Option.bind_some, w3]
              rw [prev]
              cases (Nat.beq i 0 || tkPrev (at1 l (i - 1)) (at1 l i)) <;> rfl
            · have hw3 : IntKind.i64.wrap ((i : Int) - 3) = ((i - 3 : Nat) : Int) := by rw [wrap_i64 (by omega) (by omega)]; omega
              have hb : Nat.ble i 2 = false := by cases hq : Nat.ble i 2 with
                | false => rfl
                | true => exact absurd (Nat.le_of_ble_eq_true hq) h3
              rw [dec_t (by omega : (i : Int) ≥ 3), hw3, hb]
              simp only [cond_true]
              rw [nthK_get (at1_get (by omega : i - 3 < l.length))]
              cases ((at1 l (i - 3)).2.2.1 == (at1 l i).2.2.1) with
              | true => simp only [cond_true, Option.bind_some]; cases (Nat.beq i 0 || tkPrev (at1 l (i - 1)) (at1 l i)) <;> rfl
              | false =>
                simp only [cond_false, Option.bind_some, w3]
                rw [prev]
                cases (Nat.beq i 0 || tkPrev (at1 l (i - 1)) (at1 l i)) <;> rfl) (by
    unfold prog_takes.l1
    simp only [dec_f (show ¬ (l.length : Int) < (l.length : Int) by omega), cond_false])
  rw [show (((0 : Nat) : Int)) = 0 from rfl] at this
  rw [this, Option.bind_some]
  cases allFrom (takeR s w id l) 0 l.length <;> rfl

theorem refTakes_val (s w : Int) (p : Prg) (hl : p.2.2.2.2.1.length < 1000) (hw : ∀ x ∈ p.2.2.2.2.1, WfE kTake x) : pledgeref13_takes s w p = some (takesB s w p.2.1 p.2.2.2.2.1) := by
  obtain ⟨kind, id, pol, lines, l, owes, rest⟩ := p
  simp only at hl hw ⊢
  unfold pledgeref13_takes takesB
  have := loop_all (step := pledgeref13_takes.l1) (fun i => ((s, (w, ((), (l, (i : Int))))), ((kind, id, pol, lines, l, owes, rest), ()))) (takeR s w id l) (.inl l) (.inr false) l.length (by omega) (fun i hi => by
    obtain ⟨w1, w2⟩ := wrapT hw hi
    have hg := at1_get hi
    unfold pledgeref13_takes.l1 takeR takeQ tkBase
    simp only [dec_t (show (i : Int) < (l.length : Int) by omega), cond_true]
    have w3 := succ_i64 (show i < 9223372036854775807 by omega)
    rw [nthK_get hg, nthK_get hg, nthK_get hg, nthK_get hg, w1, w2]
    cases ((at1 l i).1 != id) with
    | true => rfl
    | false =>
      cases decide ((at1 l i).2.1 ≥ s) with
      | true => rfl
      | false =>
        cases decide ((at1 l i).2.2.1 ≥ w) with
        | true => rfl
        | false =>
          cases decide ((at1 l i).2.2.2.1 < 1) with
          | true => rfl
          | false =>
            simp only [cond_false, Bool.not_false, Bool.true_and]
            -- the one ahead
            have prev : ∀ (R : Type) (no yes : Option R), (bif decide ((i : Int) > 0) then nthK l (IntKind.i64.wrap ((i : Int) - 1)) fun e43 => nthK l (i : Int) fun e44 => bif decide (e43.2.2.1 > e44.2.2.1) then no else nthK l (IntKind.i64.wrap ((i : Int) - 1)) fun e45 => nthK l (i : Int) fun e46 => bif e45.2.2.1 == e46.2.2.1 then nthK l (IntKind.i64.wrap ((i : Int) - 1)) fun e47 => nthK l (i : Int) fun e48 => bif decide (e47.2.1 ≥ e48.2.1) then no else yes else yes else yes) =
                bif (Nat.beq i 0 || tkPrev (at1 l (i - 1)) (at1 l i)) then yes else no := by
              intro R no yes
              cases i with
              | zero => rfl
              | succ i =>
                rw [dec_t (by omega : ((i + 1 : Nat) : Int) > 0), pred_i64 (by omega)]
                have hi' := at1_get (by omega : i < l.length)
                simp only [cond_true]
                rw [nthK_get hi', nthK_get hg, nthK_get hi', nthK_get hg, nthK_get hi', nthK_get hg, show Nat.beq (i + 1) 0 = false from rfl, Nat.add_sub_cancel]
                unfold tkPrev
                cases decide ((at1 l i).2.2.1 > (at1 l (i + 1)).2.2.1) <;> cases ((at1 l i).2.2.1 == (at1 l (i + 1)).2.2.1) <;> cases decide ((at1 l i).2.1 ≥ (at1 l (i + 1)).2.1) <;> rfl
            rw [prev]
            cases (Nat.beq i 0 || tkPrev (at1 l (i - 1)) (at1 l i)) with
            | false => rfl
            | true =>
              simp only [cond_true, Option.bind_some, Bool.true_and]
              by_cases h3 : i ≤ 2
              · rw [dec_f (by omega : ¬ (i : Int) ≥ 3), Nat.ble_eq_true_of_le h3]
                simp only [cond_false, w3, Bool.true_or, cond_true]
              · have hw3 : IntKind.i64.wrap ((i : Int) - 3) = ((i - 3 : Nat) : Int) := by rw [wrap_i64 (by omega) (by omega)]; omega
                have hb : Nat.ble i 2 = false := by cases hq : Nat.ble i 2 with
                  | false => rfl
                  | true => exact absurd (Nat.le_of_ble_eq_true hq) h3
                rw [dec_t (by omega : (i : Int) ≥ 3), hw3, hb]
                simp only [cond_true]
                rw [nthK_get (at1_get (by omega : i - 3 < l.length)), nthK_get hg, w3]
                cases ((at1 l (i - 3)).2.2.1 == (at1 l i).2.2.1) <;> rfl) (by
    unfold pledgeref13_takes.l1
    simp only [dec_f (show ¬ (l.length : Int) < (l.length : Int) by omega), cond_false])
  rw [show (((0 : Nat) : Int)) = 0 from rfl] at this
  rw [this, Option.bind_some]
  cases allFrom (takeR s w id l) 0 l.length <;> rfl
end Go.Proofs.Pure

/- Takes and what is owed are just what is ordered: the program's way and the document's. -/
namespace Go.Proofs.Pure
open Go.Proofs.D Go.Proofs.F

abbrev P4 := List Int × List Int × List Int × List Int
theorem walk4 {α X : Type} (g0 g1 g2 g3 : α → List Int) (fin : P4 → X) : ∀ (l : List α) (i : Nat) (a : P4),
    walkL (fun _ x (a : P4) => .inl (a.1 ++ g0 x, a.2.1 ++ g1 x, a.2.2.1 ++ g2 x, a.2.2.2 ++ g3 x)) fin i l a = fin (a.1 ++ l.flatMap g0, a.2.1 ++ l.flatMap g1, a.2.2.1 ++ l.flatMap g2, a.2.2.2 ++ l.flatMap g3)
  | [], _, _ => by simp [walkL]
  | x :: l, i, a => by simp only [walkL, walk4 g0 g1 g2 g3 fin l (i + 1), List.flatMap_cons, List.append_assoc]

abbrev U5 := Unit × Unit × Unit × Unit × Unit
def u5 : U5 := ((), ((), ((), ((), ()))))
def put4 (a : P4) : List Int × List Int × List Int × List Int × Unit := (a.1, (a.2.1, (a.2.2.1, (a.2.2.2, ()))))

theorem four {n : Int} (h : 0 ≤ n ∧ n < 4) : n = 0 ∨ n = 1 ∨ n = 2 ∨ n = 3 := by omega

theorem covered_l1 (p : Prg) (t : List Tk) (ht : t.length < 100000) (hs : ∀ x ∈ t, 0 ≤ x.2.1 ∧ x.2.1 < 4) :
    iterL prog_covered.l1 loopN (((), ((), (t, ((t.length : Int), 0)))), (p, (u5, put4 ([], [], [], [])))) = some (((), ()), (p, (u5, put4 (t.flatMap (ofTake 0), t.flatMap (ofTake 1), t.flatMap (ofTake 2), t.flatMap (ofTake 3))))) := by
  have := loop_walk (step := prog_covered.l1) t (fun i (a : P4) => (((), ((), (t, ((t.length : Int), (i : Int))))), (p, (u5, put4 a)))) (fun _ x a => .inl (a.1 ++ ofTake 0 x, a.2.1 ++ ofTake 1 x, a.2.2.1 ++ ofTake 2 x, a.2.2.2 ++ ofTake 3 x))
    (fun a => (((), ()), (p, (u5, put4 a)))) (fun i a => a.1.length ≤ i ∧ a.2.1.length ≤ i ∧ a.2.2.1.length ≤ i ∧ a.2.2.2.length ≤ i) ([], [], [], []) (by omega) (by simp) (fun i x a hx hI => by
    have hi := get_lt hx
    have h0 := hs x (get_mem hx)
    obtain ⟨i1, i2, i3, i4⟩ := hI
    refine ⟨?_, fun _ h => by
      cases h
      have q0 := ofTake_len 0 x; have q1 := ofTake_len 1 x; have q2 := ofTake_len 2 x; have q3 := ofTake_len 3 x
      simp only [List.length_append]; omega⟩
    unfold prog_covered.l1 put4
    simp only [dec_t (show (i : Int) < (t.length : Int) by omega), cond_true]
    rw [nthK_get hx, succ_i64 (by omega)]
    obtain ⟨id, sku, ware, qty, u⟩ := x
    simp only at h0 ⊢
    rcases four h0 with e | e | e | e <;> subst e
    · show room (a.1.length + [qty].length) _ = _
      rw [room_ok (by simp; omega)]
      unfold ofTake
      simp only [show ((0 : Int) == 0) = true by decide, show ((0 : Int) == 1) = false by decide, show ((0 : Int) == 2) = false by decide, show ((0 : Int) == 3) = false by decide, cond_true, cond_false, List.append_nil]
    · show room (a.2.1.length + [qty].length) _ = _
      rw [room_ok (by simp; omega)]
      unfold ofTake
      simp only [show ((1 : Int) == 0) = false by decide, show ((1 : Int) == 1) = true by decide, show ((1 : Int) == 2) = false by decide, show ((1 : Int) == 3) = false by decide, cond_true, cond_false, List.append_nil]
    · show room (a.2.2.1.length + [qty].length) _ = _
      rw [room_ok (by simp; omega)]
      unfold ofTake
      simp only [show ((2 : Int) == 0) = false by decide, show ((2 : Int) == 1) = false by decide, show ((2 : Int) == 2) = true by decide, show ((2 : Int) == 3) = false by decide, cond_true, cond_false, List.append_nil]
    · show room (a.2.2.2.length + [qty].length) _ = _
      rw [room_ok (by simp; omega)]
      unfold ofTake
      simp only [show ((3 : Int) == 0) = false by decide, show ((3 : Int) == 1) = false by decide, show ((3 : Int) == 2) = false by decide, show ((3 : Int) == 3) = true by decide, cond_true, cond_false, List.append_nil]) (fun a _ => by
    unfold prog_covered.l1
    simp only [dec_f (show ¬ (t.length : Int) < (t.length : Int) by omega), cond_false])
  rw [show (((0 : Nat) : Int)) = 0 from rfl] at this
  rw [this, walk4]
  simp only [List.nil_append]

theorem covered_l2 (p : Prg) (t : List Ln) (a0 : P4) (h0 : a0.1.length < 100000 ∧ a0.2.1.length < 100000 ∧ a0.2.2.1.length < 100000 ∧ a0.2.2.2.length < 100000) (ht : t.length < 100000) (hs : ∀ x ∈ t, 0 ≤ x.1 ∧ x.1 < 4) :
    iterL prog_covered.l2 loopN (((), ((), (t, ((t.length : Int), 0)))), (p, (u5, put4 a0))) = some (((), ()), (p, (u5, put4 (a0.1 ++ t.flatMap (ofLine 0), a0.2.1 ++ t.flatMap (ofLine 1), a0.2.2.1 ++ t.flatMap (ofLine 2), a0.2.2.2 ++ t.flatMap (ofLine 3))))) := by
  have := loop_walk (step := prog_covered.l2) t (fun i (a : P4) => (((), ((), (t, ((t.length : Int), (i : Int))))), (p, (u5, put4 a)))) (fun _ x a => .inl (a.1 ++ ofLine 0 x, a.2.1 ++ ofLine 1 x, a.2.2.1 ++ ofLine 2 x, a.2.2.2 ++ ofLine 3 x))
    (fun a => (((), ()), (p, (u5, put4 a)))) (fun i a => a.1.length ≤ i + 100000 ∧ a.2.1.length ≤ i + 100000 ∧ a.2.2.1.length ≤ i + 100000 ∧ a.2.2.2.length ≤ i + 100000) a0 (by omega) (by omega) (fun i x a hx hI => by
    have hi := get_lt hx
    have h0 := hs x (get_mem hx)
    obtain ⟨i1, i2, i3, i4⟩ := hI
    refine ⟨?_, fun _ h => by
      cases h
      have q0 := ofLine_len 0 x; have q1 := ofLine_len 1 x; have q2 := ofLine_len 2 x; have q3 := ofLine_len 3 x
      simp only [List.length_append]; omega⟩
    unfold prog_covered.l2 put4
    simp only [dec_t (show (i : Int) < (t.length : Int) by omega), cond_true]
    rw [nthK_get hx, succ_i64 (by omega)]
    obtain ⟨sku, qty, u⟩ := x
    simp only at h0 ⊢
    rcases four h0 with e | e | e | e <;> subst e
    · show room (a.1.length + [qty].length) _ = _
      rw [room_ok (by simp; omega)]
      unfold ofLine
      simp only [show ((0 : Int) == 0) = true by decide, show ((0 : Int) == 1) = false by decide, show ((0 : Int) == 2) = false by decide, show ((0 : Int) == 3) = false by decide, cond_true, cond_false, List.append_nil]
    · show room (a.2.1.length + [qty].length) _ = _
      rw [room_ok (by simp; omega)]
      unfold ofLine
      simp only [show ((1 : Int) == 0) = false by decide, show ((1 : Int) == 1) = true by decide, show ((1 : Int) == 2) = false by decide, show ((1 : Int) == 3) = false by decide, cond_true, cond_false, List.append_nil]
    · show room (a.2.2.1.length + [qty].length) _ = _
      rw [room_ok (by simp; omega)]
      unfold ofLine
      simp only [show ((2 : Int) == 0) = false by decide, show ((2 : Int) == 1) = false by decide, show ((2 : Int) == 2) = true by decide, show ((2 : Int) == 3) = false by decide, cond_true, cond_false, List.append_nil]
    · show room (a.2.2.2.length + [qty].length) _ = _
      rw [room_ok (by simp; omega)]
      unfold ofLine
      simp only [show ((3 : Int) == 0) = false by decide, show ((3 : Int) == 1) = false by decide, show ((3 : Int) == 2) = false by decide, show ((3 : Int) == 3) = true by decide, cond_true, cond_false, List.append_nil]) (fun a _ => by
    unfold prog_covered.l2
    simp only [dec_f (show ¬ (t.length : Int) < (t.length : Int) by omega), cond_false])
  rw [show (((0 : Nat) : Int)) = 0 from rfl] at this
  rw [this, walk4]

def wantOf (l : List Ln) : List Int := l.foldl (fun a x => a.set x.1.toNat x.2.1) (List.replicate 4 0)
theorem walk_fold {α A X : Type} (h : A → α → A) (fin : A → X) : ∀ (l : List α) (i : Nat) (a : A), walkL (fun _ x a => .inl (h a x)) fin i l a = fin (l.foldl h a)
  | [], _, _ => rfl
  | x :: l, i, a => by simp only [walkL, walk_fold h fin l (i + 1), List.foldl_cons]

theorem covered_l3 (t : List Ln) (a0 : P4) (ht : t.length < 100000) (hs : ∀ x ∈ t, 0 ≤ x.1 ∧ x.1 < 4) :
    iterL prog_covered.l3 loopN (((), ((), (t, ((t.length : Int), 0)))), (u5, (List.replicate 4 0, put4 a0))) = some (((), ()), (u5, (wantOf t, put4 a0))) := by
  have := loop_walk (step := prog_covered.l3) t (fun i (a : List Int) => (((), ((), (t, ((t.length : Int), (i : Int))))), (u5, (a, put4 a0)))) (fun _ x a => .inl (a.set x.1.toNat x.2.1))
    (fun a => (((), ()), (u5, (a, put4 a0)))) (fun i a => a.length = 4) (List.replicate 4 0) (by omega) (by simp) (fun i x a hx hI => by
    have hi := get_lt hx
    have h0 := hs x (get_mem hx)
    refine ⟨?_, fun _ h => by cases h; simpa using hI⟩
    unfold prog_covered.l3
    simp only [dec_t (show (i : Int) < (t.length : Int) by omega), cond_true]
    rw [nthK_get hx, succ_i64 (by omega), chk_true (by rw [dec_t h0.1, dec_t h0.2]; rfl)]
    obtain ⟨sku, qty, u⟩ := x
    obtain ⟨n, rfl⟩ := Int.eq_ofNat_of_zero_le h0.1
    simp only at h0
    show nthN a n _ = _
    rw [nthN_get (List.getElem?_eq_getElem (by omega : n < a.length))]
    rfl) (fun a _ => by
    unfold prog_covered.l3
    simp only [dec_f (show ¬ (t.length : Int) < (t.length : Int) by omega), cond_false])
  rw [show (((0 : Nat) : Int)) = 0 from rfl] at this
  rw [this, walk_fold]
  rfl

/-- Of one article: the parts come to what is wanted. -/
def coverK (a : List Int) (n : Int) : Bool := (sumOf a).2.1 && !((sumOf a).1 != n)
def coverP (a : P4) (w : List Int) : Bool := coverK a.1 (w.getD 0 0) && (coverK a.2.1 (w.getD 1 0) && (coverK a.2.2.1 (w.getD 2 0) && coverK a.2.2.2 (w.getD 3 0)))

theorem covered_step (a : P4) (w : List Int) (hw : w.length = 4) (k : Nat) (hk : k < 4) (q : List Int) (hq : q = [a.1, a.2.1, a.2.2.1, a.2.2.2].getD k []) (hl : q.length < 1000000) (hf : ∀ n ∈ q, -9223372036854775808 ≤ n ∧ n < 9223372036854775808) :
    prog_covered.l4 (((), (u5, (k : Int))), (w, put4 a)) = bif coverK q (w.getD k 0) then some (.inl (((), (u5, ((k + 1 : Nat) : Int))), (w, put4 a))) else some (.inr (.inr false)) := by
  have hs := sum_all q hl hf
  have hget : w[k]? = some (w.getD k 0) := by rw [List.getD_eq_getElem?_getD, List.getElem?_eq_getElem (by omega)]; rfl
  have fin : ∀ (x : (Unit × U5 × Int) × List Int × List Int × List Int × List Int × List Int × Unit), ((calc_Sum q).bind fun r50 => bif !r50.2.1 then some (Sum.inr (Sum.inr false)) else chk (decide (0 ≤ (k : Int)) && decide ((k : Int) < 4)) (nthK w (k : Int) fun e51 => bif (r50.1 : Int) != e51 then some (Sum.inr (Sum.inr false)) else some (Sum.inl x))) =
      (bif coverK q (w.getD k 0) then some (Sum.inl x) else some (Sum.inr (Sum.inr false)) : Option (_ ⊕ (Unit ⊕ Bool))) := by
    intro x
    rw [hs, Option.bind_some, chk_true (by rw [dec_t (by omega : 0 ≤ (k : Int)), dec_t (by omega : (k : Int) < 4)]; rfl), nthK_get hget]
    unfold coverK
    cases (sumOf q).2.1 <;> cases ((sumOf q).1 != w.getD k 0) <;> rfl
  have hw1 := succ_i64 (show k < 9223372036854775807 by omega)
  rw [← hw1, ← fin]
  subst hq
  match k, hk with
  | 0, _ => rfl
  | 1, _ => rfl
  | 2, _ => rfl
  | 3, _ => rfl

theorem covered_l4 (a : P4) (w : List Int) (hw : w.length = 4) (hl : ∀ q ∈ [a.1, a.2.1, a.2.2.1, a.2.2.2], q.length < 1000000 ∧ ∀ n ∈ q, -9223372036854775808 ≤ n ∧ n < 9223372036854775808) :
    iterL prog_covered.l4 loopN (((), (u5, 0)), (w, put4 a)) = some (bif coverP a w then .inl () else .inr false) := by
  have h0 := hl a.1 (by simp)
  have h1 := hl a.2.1 (by simp)
  have h2 := hl a.2.2.1 (by simp)
  have h3 := hl a.2.2.2 (by simp)
  have s0 := covered_step a w hw 0 (by omega) a.1 rfl h0.1 h0.2
  have s1 := covered_step a w hw 1 (by omega) a.2.1 rfl h1.1 h1.2
  have s2 := covered_step a w hw 2 (by omega) a.2.2.1 rfl h2.1 h2.2
  have s3 := covered_step a w hw 3 (by omega) a.2.2.2 rfl h3.1 h3.2
  have s4 : prog_covered.l4 (((), (u5, ((4 : Nat) : Int))), (w, put4 a)) = some (.inr (.inl ())) := rfl
  refine iterL_mono (n := 5) ?_ (by rw [loopN_eq]; omega)
  unfold coverP
  rw [show (0 : Int) = ((0 : Nat) : Int) from rfl]
  cases c0 : coverK a.1 (w.getD 0 0) with
  | false => rw [c0] at s0; exact iterL_done s0
  | true =>
    rw [c0] at s0
    rw [iterL_next s0]
    cases c1 : coverK a.2.1 (w.getD 1 0) with
    | false => rw [c1] at s1; exact iterL_done s1
    | true =>
      rw [c1] at s1
      rw [iterL_next s1]
      cases c2 : coverK a.2.2.1 (w.getD 2 0) with
      | false => rw [c2] at s2; exact iterL_done s2
      | true =>
        rw [c2] at s2
        rw [iterL_next s2]
        cases c3 : coverK a.2.2.2 (w.getD 3 0) with
        | false => rw [c3] at s3; exact iterL_done s3
        | true =>
          rw [c3] at s3
          rw [iterL_next s3]
          exact iterL_done s4

/-- The parts of each article, what is wanted of it. -/
def partsOf (t : List Tk) (l : List Ln) : P4 := (namedOf 0 t l, namedOf 1 t l, namedOf 2 t l, namedOf 3 t l)
def coveredB (t : List Tk) (owes lines : List Ln) : Bool := coverP (partsOf t owes) (wantOf lines)

theorem wantOf_len : ∀ (l : List Ln) (a : List Int), a.length = 4 → (l.foldl (fun a x => a.set x.1.toNat x.2.1) a).length = 4
  | [], a, h => h
  | x :: l, a, h => by rw [List.foldl_cons]; exact wantOf_len l _ (by simpa using h)

theorem progCovered_val (p : Prg) (h1 : p.2.2.2.1.length < 100000) (h2 : p.2.2.2.2.1.length < 100000) (h3 : p.2.2.2.2.2.1.length < 100000) (w2 : ∀ x ∈ p.2.2.2.2.1, WfE kTake x) (w3 : ∀ x ∈ p.2.2.2.2.2.1, WfE kLine x)
    (g1 : ∀ x ∈ p.2.2.2.1, 0 ≤ x.1 ∧ x.1 < 4) (g2 : ∀ x ∈ p.2.2.2.2.1, 0 ≤ x.2.1 ∧ x.2.1 < 4) (g3 : ∀ x ∈ p.2.2.2.2.2.1, 0 ≤ x.1 ∧ x.1 < 4) : prog_covered p = some (coveredB p.2.2.2.2.1 p.2.2.2.2.2.1 p.2.2.2.1) := by
  have e0 := flat_len (ofTake_len 0) p.2.2.2.2.1
  have e1 := flat_len (ofTake_len 1) p.2.2.2.2.1
  have e2 := flat_len (ofTake_len 2) p.2.2.2.2.1
  have e3 := flat_len (ofTake_len 3) p.2.2.2.2.1
  have l1 := covered_l1 p p.2.2.2.2.1 h2 g2
  have l2 := covered_l2 p p.2.2.2.2.2.1 (p.2.2.2.2.1.flatMap (ofTake 0), p.2.2.2.2.1.flatMap (ofTake 1), p.2.2.2.2.1.flatMap (ofTake 2), p.2.2.2.2.1.flatMap (ofTake 3)) (by simp only []; omega) h3 g3
  have l3 := covered_l3 p.2.2.2.1 (partsOf p.2.2.2.2.1 p.2.2.2.2.2.1) h1 g1
  have fit : ∀ k : Int, (namedOf k p.2.2.2.2.1 p.2.2.2.2.2.1).length < 1000000 ∧ ∀ n ∈ namedOf k p.2.2.2.2.1 p.2.2.2.2.2.1, -9223372036854775808 ≤ n ∧ n < 9223372036854775808 := fun k => ⟨by have := named_len k p.2.2.2.2.1 p.2.2.2.2.2.1; omega, named_fit k _ _ w2 w3⟩
  have l4 := covered_l4 (partsOf p.2.2.2.2.1 p.2.2.2.2.2.1) (wantOf p.2.2.2.1) (wantOf_len _ _ (by simp)) (fun q hq => by
    unfold partsOf at hq
    simp only [List.mem_cons, List.not_mem_nil, or_false] at hq
    rcases hq with e | e | e | e <;> subst e <;> exact fit _)
  unfold prog_covered
  unfold put4 u5 at l1 l2 l3 l4
  rw [l1, Option.bind_some]
  simp only []
  rw [l2, Option.bind_some]
  simp only []
  unfold partsOf namedOf at l3 l4
  rw [l3, Option.bind_some]
  simp only []
  rw [l4, Option.bind_some]
  unfold coveredB partsOf namedOf
  cases coverP _ (wantOf p.2.2.2.1) <;> rfl

/-! ### The document's way -/
theorem allFrom_at {p : Nat → Bool} {k : Nat} (h : allFrom p 0 k = true) {j : Nat} (hj : j < k) : p j = true := (allFrom_iff.1 h) j (by omega) (by omega)

theorem linesB_lt {s : Int} {l : List Ln} (h : linesB s l = true) : ∀ x ∈ l, x.1 < s ∧ 1 ≤ x.2.1 := by
  unfold linesB at h
  simp only [Bool.and_eq_true, decide_eq_true_eq] at h
  intro x hx
  obtain ⟨i, hi, e⟩ := List.getElem_of_mem hx
  have := allFrom_at h.1 hi
  unfold lineR at this
  have ea : at0 l i = x := by unfold at0; rw [List.getD_eq_getElem?_getD, List.getElem?_eq_getElem hi, e]; rfl
  rw [ea] at this
  simp only [Bool.and_eq_true, Bool.not_eq_true', decide_eq_false_iff_not] at this
  omega

theorem linesB_shape {s : Int} {l : List Ln} (h : linesB s l = true) : l = [] ∨ (∃ a, l = [a]) ∨ (∃ a b, l = [a, b] ∧ a.1 < b.1) ∨ (∃ a b c, l = [a, b, c] ∧ a.1 < b.1 ∧ b.1 < c.1) := by
  have h0 := h
  unfold linesB at h
  simp only [Bool.and_eq_true, decide_eq_true_eq] at h
  obtain ⟨ha, hl⟩ := h
  match l, ha, hl with
  | [], _, _ => exact .inl rfl
  | [a], _, _ => exact .inr (.inl ⟨a, rfl⟩)
  | [a, b], ha, _ =>
    have h1 := allFrom_at ha (show 1 < 2 by omega)
    simp only [lineR, Bool.and_eq_true, Bool.or_eq_true, Bool.not_eq_true', decide_eq_false_iff_not] at h1
    have h2 : ¬ a.1 ≥ b.1 := by rcases h1.2.2 with q | q; cases q; exact q
    exact .inr (.inr (.inl ⟨a, b, rfl, by omega⟩))
  | [a, b, c], ha, _ =>
    have h1 := allFrom_at ha (show 1 < 3 by omega)
    have h3 := allFrom_at ha (show 2 < 3 by omega)
    simp only [lineR, Bool.and_eq_true, Bool.or_eq_true, Bool.not_eq_true', decide_eq_false_iff_not] at h1 h3
    have h2 : ¬ a.1 ≥ b.1 := by rcases h1.2.2 with q | q; cases q; exact q
    have h4 : ¬ b.1 ≥ c.1 := by rcases h3.2.2 with q | q; cases q; exact q
    exact .inr (.inr (.inr ⟨a, b, c, rfl, by omega, by omega⟩))
  | a :: b :: c :: d :: l, _, hl => simp only [List.length_cons] at hl; omega

theorem sumOf_nil : sumOf [] = (0, (true, ())) := rfl
theorem sumOf_one {q : Int} (h : -9223372036854775808 ≤ q ∧ q < 9223372036854775808) : sumOf [q] = (q, (true, ())) := by
  unfold sumOf fitsI total total
  rw [Int.add_zero, dec_t h.1, dec_t h.2]; rfl

theorem set_at (l : List Int) (n k : Nat) (q : Int) (hl : l.length = 4) (hn : n < 4) : (l.set n q).getD k 0 = if n = k then q else l.getD k 0 := by
  rw [List.getD_eq_getElem?_getD, List.getElem?_set]
  by_cases h : n = k
  · subst h; simp [hl, hn]
  · simp [h]

theorem want_line {s : Int} {l : List Ln} (h : linesB s l = true) (hs : s ≤ 4) (hw : ∀ x ∈ l, WfE kLine x) (k : Nat) (hk : k < 4) : sumOf (l.flatMap (ofLine k)) = ((wantOf l).getD k 0, (true, ())) := by
  have hlt := linesB_lt h
  have hz : (List.replicate 4 (0 : Int)).getD k 0 = 0 := by
    match k, hk with
    | 0, _ => rfl
    | 1, _ => rfl
    | 2, _ => rfl
    | 3, _ => rfl
  have hb : ∀ x ∈ l, (0 ≤ x.1 ∧ x.1 < 4) ∧ -9223372036854775808 ≤ x.2.1 ∧ x.2.1 < 9223372036854775808 := fun x hx => by
    have q1 := hlt x hx
    have q2 := wf_u8 (hw x hx).1
    exact ⟨⟨q2.1, by omega⟩, wf_i64 (hw x hx).2.1⟩
  have eqk : ∀ x : Ln, 0 ≤ x.1 → ((x.1 == (k : Int)) = decide (x.1.toNat = k)) := fun x h0 => by
    by_cases q : x.1 = (k : Int)
    · rw [dec_t (by omega), beq_iff_eq]; exact q
    · rw [dec_f (by omega), beq_eq_false_iff_ne]; exact q
  rcases linesB_shape h with e | ⟨a, e⟩ | ⟨a, b, e, h1⟩ | ⟨a, b, c, e, h1, h2⟩ <;> subst e
  · show sumOf [] = ((List.replicate 4 (0 : Int)).getD k 0, (true, ()))
    rw [hz]; rfl
  · have ha := hb a (by simp)
    simp only [wantOf, List.foldl_cons, List.foldl_nil, List.flatMap_cons, List.flatMap_nil, List.append_nil]
    rw [set_at _ _ _ _ (by simp) (by omega), hz]
    unfold ofLine
    rw [eqk a ha.1.1]
    by_cases q : a.1.toNat = k
    · rw [dec_t q, if_pos q]; exact sumOf_one ha.2
    · rw [dec_f q, if_neg q]; rfl
  · have ha := hb a (by simp)
    have hb' := hb b (by simp)
    simp only [wantOf, List.foldl_cons, List.foldl_nil, List.flatMap_cons, List.flatMap_nil, List.append_nil]
    rw [set_at _ _ _ _ (by simp) (by omega), set_at _ _ _ _ (by simp) (by omega), hz]
    unfold ofLine
    rw [eqk a ha.1.1, eqk b hb'.1.1]
    by_cases q : a.1.toNat = k
    · rw [dec_t q, if_pos q, dec_f (by omega : ¬ b.1.toNat = k), if_neg (by omega)]; exact sumOf_one ha.2
    · rw [dec_f q, if_neg q]
      by_cases r : b.1.toNat = k
      · rw [dec_t r, if_pos r]; exact sumOf_one hb'.2
      · rw [dec_f r, if_neg r]; rfl
  · have ha := hb a (by simp)
    have hb' := hb b (by simp)
    have hc := hb c (by simp)
    simp only [wantOf, List.foldl_cons, List.foldl_nil, List.flatMap_cons, List.flatMap_nil, List.append_nil]
    rw [set_at _ _ _ _ (by simp) (by omega), set_at _ _ _ _ (by simp) (by omega), set_at _ _ _ _ (by simp) (by omega), hz]
    unfold ofLine
    rw [eqk a ha.1.1, eqk b hb'.1.1, eqk c hc.1.1]
    by_cases q : a.1.toNat = k
    · rw [dec_t q, if_pos q, dec_f (by omega : ¬ b.1.toNat = k), if_neg (by omega), dec_f (by omega : ¬ c.1.toNat = k), if_neg (by omega)]; exact sumOf_one ha.2
    · rw [dec_f q, if_neg q]
      by_cases r : b.1.toNat = k
      · rw [dec_t r, if_pos r, dec_f (by omega : ¬ c.1.toNat = k), if_neg (by omega)]; exact sumOf_one hb'.2
      · rw [dec_f r, if_neg r]
        by_cases t : c.1.toNat = k
        · rw [dec_t t, if_pos t]; exact sumOf_one hc.2
        · rw [dec_f t, if_neg t]; rfl

theorem refCovered_val (p : Prg) {s : Int} (hs : s ≤ 4) (hL : linesB s p.2.2.2.1 = true) (h1 : p.2.2.2.1.length < 100000) (h2 : p.2.2.2.2.1.length < 100000) (h3 : p.2.2.2.2.2.1.length < 100000)
    (w1 : ∀ x ∈ p.2.2.2.1, WfE kLine x) (w2 : ∀ x ∈ p.2.2.2.2.1, WfE kTake x) (w3 : ∀ x ∈ p.2.2.2.2.2.1, WfE kLine x) : pledgeref13_covered p = some (coveredB p.2.2.2.2.1 p.2.2.2.2.2.1 p.2.2.2.1) := by
  have step : ∀ k : Nat, k < 4 → pledgeref13_covered.l1 (((), (k : Int)), (p, ())) = bif coverK (namedOf k p.2.2.2.2.1 p.2.2.2.2.2.1) ((wantOf p.2.2.2.1).getD k 0) then some (.inl (((), ((k + 1 : Nat) : Int)), (p, ()))) else some (.inr (.inr false)) := by
    intro k hk
    unfold pledgeref13_covered.l1
    have e : IntKind.u8.wrap (k : Int) = (k : Int) := wrap_u8 (by omega) (by omega)
    simp only [dec_t (by omega : (k : Int) < 4), cond_true, e]
    rw [refNamed_val _ _ _ (by omega) (by omega) w2 w3, Option.bind_some, refNamed_val _ _ _ (by simp) (by omega) (by simp) w1, Option.bind_some]
    have en : namedOf (k : Int) [] p.2.2.2.1 = p.2.2.2.1.flatMap (ofLine k) := rfl
    rw [en, want_line hL hs w1 k hk, succ_i64 (by omega)]
    unfold coverK
    cases (sumOf (namedOf (k : Int) p.2.2.2.2.1 p.2.2.2.2.2.1)).2.1 <;> cases ((sumOf (namedOf (k : Int) p.2.2.2.2.1 p.2.2.2.2.2.1)).1 != (wantOf p.2.2.2.1).getD k 0) <;> rfl
  have run := loop_all (step := pledgeref13_covered.l1) (fun k => (((), (k : Int)), (p, ()))) (fun k => coverK (namedOf k p.2.2.2.2.1 p.2.2.2.2.2.1) ((wantOf p.2.2.2.1).getD k 0)) (.inl ()) (.inr false) 4 (by omega) (fun k hk => step k hk) rfl
  rw [show (((0 : Nat) : Int)) = 0 from rfl] at run
  have ec : allFrom (fun k => coverK (namedOf k p.2.2.2.2.1 p.2.2.2.2.2.1) ((wantOf p.2.2.2.1).getD k 0)) 0 4 = coveredB p.2.2.2.2.1 p.2.2.2.2.2.1 p.2.2.2.1 := by
    unfold coveredB coverP partsOf
    simp only [allFrom, Bool.and_true]
    rfl
  rw [ec] at run
  unfold pledgeref13_covered
  rw [run, Option.bind_some]
  cases coveredB p.2.2.2.2.1 p.2.2.2.2.2.1 p.2.2.2.1 <;> rfl
end Go.Proofs.Pure

/- Which takes of a restock may be: the program's way and the document's. -/
namespace Go.Proofs.Pure
open Go.Proofs.D Go.Proofs.F

abbrev Seen := List (Int × Int)
abbrev gM (m : Seen) (o : Int) : Int := getM (.int .u32) (.int .i64) m o
abbrev pM (m : Seen) (o v : Int) : Seen := putM (.int .u32) (.int .i64) m o v

theorem gM_same (o v : Int) : ∀ m : Seen, gM (pM m o v) o = v
  | [] => by
    show (bif eqE (.int .u32) o o then v else _) = v
    rw [show eqE (.int .u32) o o = true by simp [eqE]]; rfl
  | e :: m => by
    show gM (bif eqE (.int .u32) o e.1 then (o, v) :: m else e :: pM m o v) o = v
    cases h : eqE (.int .u32) o e.1 with
    | true =>
      show (bif eqE (.int .u32) o o then v else _) = v
      rw [show eqE (.int .u32) o o = true by simp [eqE]]; rfl
    | false =>
      show (bif eqE (.int .u32) o e.1 then e.2 else gM (pM m o v) o) = v
      rw [h]; exact gM_same o v m
theorem gM_other {o q : Int} (v : Int) (hne : o ≠ q) : ∀ m : Seen, gM (pM m o v) q = gM m q
  | [] => by
    show (bif eqE (.int .u32) q o then v else _) = _
    rw [show eqE (.int .u32) q o = false by simp [eqE]; exact fun h => hne h.symm]; rfl
  | e :: m => by
    show gM (bif eqE (.int .u32) o e.1 then (o, v) :: m else e :: pM m o v) q = (bif eqE (.int .u32) q e.1 then e.2 else gM m q)
    cases h : eqE (.int .u32) o e.1 with
    | true =>
      have he : o = e.1 := by simpa [eqE] using h
      show (bif eqE (.int .u32) q o then v else gM m q) = _
      rw [← he, show eqE (.int .u32) q o = false by simp [eqE]; exact fun h => hne h.symm]; rfl
    | false =>
      show (bif eqE (.int .u32) q e.1 then e.2 else gM (pM m o v) q) = _
      rw [gM_other v hne m]

def seenAt (l : List Tk) : Nat → Seen
  | 0 => [] | i + 1 => pM (seenAt l i) (at1 l i).1 (IntKind.i64.wrap (gM (seenAt l i) (at1 l i).1 + 1))
def cnt (l : List Tk) (o : Int) : Nat → Nat
  | 0 => 0 | i + 1 => cnt l o i + bif (at1 l i).1 == o then 1 else 0
theorem cnt_le (l : List Tk) (o : Int) : ∀ i, cnt l o i ≤ i
  | 0 => Nat.le_refl _ | i + 1 => by have := cnt_le l o i; simp only [cnt]; cases ((at1 l i).1 == o) <;> simp <;> omega

theorem seen_cnt (l : List Tk) : ∀ (i : Nat), i < 1000 → ∀ o, gM (seenAt l i) o = (cnt l o i : Int)
  | 0, _, o => rfl
  | i + 1, h, o => by
    have ih := seen_cnt l i (by omega)
    simp only [seenAt, cnt]
    by_cases q : (at1 l i).1 = o
    · rw [q, gM_same, ih o, show (o == o) = true by simp, wrap_i64 (by have := cnt_le l o i; omega) (by have := cnt_le l o i; omega)]
      simp
    · rw [gM_other _ q, ih o, show ((at1 l i).1 == o) = false by rw [beq_eq_false_iff_ne]; exact q]
      simp

/-- None ahead is of the same order. -/
def alone (l : List Tk) (i : Nat) : Bool := allFrom (fun k => !((at1 l k).1 == (at1 l i).1)) 0 i
theorem cnt_zero (l : List Tk) (o : Int) : ∀ i, cnt l o i = 0 ↔ ∀ k, k < i → ((at1 l k).1 == o) = false
  | 0 => by simp [cnt]
  | i + 1 => by
    simp only [cnt]
    constructor
    · intro h k hk
      have h1 : cnt l o i = 0 := by omega
      by_cases e : k = i
      · subst e
        cases q : ((at1 l k).1 == o) with
        | false => rfl
        | true => rw [q] at h; simp at h
      · exact (cnt_zero l o i).1 h1 k (by omega)
    · intro h
      rw [(cnt_zero l o i).2 fun k hk => h k (by omega), h i (by omega)]
      rfl
theorem alone_cnt (l : List Tk) (i : Nat) : alone l i = decide (cnt l (at1 l i).1 i = 0) := boolEq (by
  unfold alone
  rw [allFrom_iff, decide_eq_true_eq, cnt_zero]
  constructor
  · intro h k hk; have := h k (by omega) (by omega); simpa using this
  · intro h k _ hk; have := h k (by omega); simpa using this)

def fillR (p : Prg) (l : List Tk) (i : Nat) : Bool := alone l i && (!((at1 l i).1 == 0) && (!((at1 l i).2.1 != p.2.2.2.2.2.2.1) && (!((at1 l i).2.2.1 != p.2.2.2.2.2.2.2.2.1) && !decide ((at1 l i).2.2.2.1 < 1))))
def qtyOf (t : Tk) : Int := t.2.2.2.1
def fillsB (p : Prg) : Bool := allFrom (fillR p p.2.2.2.2.1) 0 p.2.2.2.2.1.length && (decide ((p.2.2.2.2.1.length : Int) ≤ 12) && ((sumOf (p.2.2.2.2.1.map qtyOf)).2.1 && decide ((sumOf (p.2.2.2.2.1.map qtyOf)).1 ≤ p.2.2.2.2.2.2.2.2.2.1)))

theorem flat_single : ∀ t : List Tk, t.flatMap (fun y => [qtyOf y]) = t.map qtyOf
  | [] => rfl
  | a :: t => by rw [List.flatMap_cons, flat_single t]; rfl
theorem flat_same {k : Int} : ∀ {t : List Tk}, (∀ x ∈ t, x.2.1 = k) → t.flatMap (ofTake k) = t.map qtyOf
  | [], _ => rfl
  | a :: t, h => by
    rw [List.flatMap_cons, flat_same fun x hx => h x (List.mem_cons_of_mem _ hx)]
    have h1 : ofTake k a = [qtyOf a] := by
      unfold ofTake
      rw [h a List.mem_cons_self, show (k == k) = true by simp]; rfl
    rw [h1]; rfl

theorem together_val (t : List Tk) (ht : t.length < 1000) (hw : ∀ x ∈ t, WfE kTake x) : prog_together t = some (sumOf (t.map qtyOf)) := by
  unfold prog_together
  have := loop_walk (step := prog_together.l1) t (fun i (acc : List Int) => (((), (t, ((t.length : Int), (i : Int)))), (acc, ()))) (fun _ y acc => .inl (acc ++ [qtyOf y])) (fun acc => ((), (acc, ()))) (fun i acc => acc.length ≤ i) [] (by omega) (by simp) (fun i y acc hx hI => by
    have hi := get_lt hx
    refine ⟨?_, fun _ h => by cases h; simp only [List.length_append, List.length_singleton]; omega⟩
    unfold prog_together.l1
    simp only [dec_t (show (i : Int) < (t.length : Int) by omega), cond_true]
    rw [nthK_get hx, room_ok (by simp; omega), succ_i64 (by omega)]
    rfl) (fun acc _ => by
    unfold prog_together.l1
    simp only [dec_f (show ¬ (t.length : Int) < (t.length : Int) by omega), cond_false])
  rw [show (((0 : Nat) : Int)) = 0 from rfl] at this
  rw [this, walk_gather, List.nil_append, Option.bind_some]
  simp only [flat_single]
  rw [sum_all _ (by simp; omega) (fun n hn => by
    obtain ⟨x, hx, e⟩ := List.mem_map.1 hn
    subst e; exact wfTake (hw x hx))]
  rfl

theorem progFills_val (p : Prg) (hl : p.2.2.2.2.1.length < 1000) (hw : ∀ x ∈ p.2.2.2.2.1, WfE kTake x) : prog_fills p = some (fillsB p) := by
  unfold prog_fills fillsB
  generalize hL : p.2.2.2.2.1 = l at *
  have := loop_all (step := prog_fills.l1) (fun i => (((), ((), (l, ((l.length : Int), (i : Int))))), (p, (seenAt l i, ())))) (fillR p l) (.inl ((), (p, ()))) (.inr false) l.length (by omega) (fun i hi => by
    unfold prog_fills.l1 fillR
    simp only [dec_t (show (i : Int) < (l.length : Int) by omega), cond_true]
    rw [nthK_get (at1_get hi), succ_i64 (by omega)]
    have hc := seen_cnt l i (by omega) (at1 l i).1
    have hle := cnt_le l (at1 l i).1 i
    have e1 : getM (.int .u32) (.int .i64) (seenAt l (i + 1)) (at1 l i).1 = (cnt l (at1 l i).1 i : Int) + 1 := by
      show gM (pM (seenAt l i) (at1 l i).1 (IntKind.i64.wrap (gM (seenAt l i) (at1 l i).1 + 1))) (at1 l i).1 = _
      rw [gM_same, hc, wrap_i64 (by omega) (by omega)]
    show (bif decide (getM (.int .u32) (.int .i64) (seenAt l (i + 1)) (at1 l i).1 > 1) then _ else _) = _
    rw [e1, alone_cnt]
    by_cases q : cnt l (at1 l i).1 i = 0
    · rw [dec_t q, dec_f (by omega : ¬ (cnt l (at1 l i).1 i : Int) + 1 > 1)]
      cases ((at1 l i).1 == 0) <;> cases ((at1 l i).2.1 != p.2.2.2.2.2.2.1) <;> cases ((at1 l i).2.2.1 != p.2.2.2.2.2.2.2.2.1) <;> cases decide ((at1 l i).2.2.2.1 < 1) <;> rfl
    · rw [dec_f q, dec_t (by omega : (cnt l (at1 l i).1 i : Int) + 1 > 1)]; rfl) (by
    unfold prog_fills.l1
    simp only [dec_f (show ¬ (l.length : Int) < (l.length : Int) by omega), cond_false])
  rw [show (((0 : Nat) : Int)) = 0 from rfl] at this
  have this' : iterL prog_fills.l1 loopN (((), ((), (l, ((l.length : Int), 0)))), (p, ([], ()))) = _ := this
  rw [this', Option.bind_some]
  cases allFrom (fillR p l) 0 l.length with
  | false => rfl
  | true =>
    simp only [cond_true, hL, Bool.true_and]
    rw [together_val l hl hw, Option.bind_some]
    cases decide ((l.length : Int) ≤ 12) <;> cases (sumOf (l.map qtyOf)).2.1 <;> rfl

theorem refFills_val (p : Prg) (hl : p.2.2.2.2.1.length < 1000) (hw : ∀ x ∈ p.2.2.2.2.1, WfE kTake x) : pledgeref13_fills p = some (fillsB p) := by
  unfold pledgeref13_fills fillsB
  generalize hL : p.2.2.2.2.1 = l at *
  have := loop_all (step := pledgeref13_fills.l1) (fun i => (((), (l, (i : Int))), (p, ()))) (fillR p l) (.inl (((), l), (p, ()))) (.inr false) l.length (by omega) (fun i hi => by
    have hg := at1_get hi
    unfold pledgeref13_fills.l1 fillR
    simp only [dec_t (show (i : Int) < (l.length : Int) by omega), cond_true]
    rw [nthK_get hg, nthK_get hg, nthK_get hg, nthK_get hg]
    have inner := loop_all (step := pledgeref13_fills.l2) (fun k => (((), (l, ((i : Int), (k : Int)))), (p, ()))) (fun k => !((at1 l k).1 == (at1 l i).1)) (.inl (((), (l, (i : Int))), (p, ()))) (.inr false) i (by omega) (fun k hk => by
      unfold pledgeref13_fills.l2
      simp only [dec_t (show (k : Int) < (i : Int) by omega), cond_true]
      rw [nthK_get (at1_get (by omega : k < l.length)), nthK_get hg, succ_i64 (by omega)]
      cases ((at1 l k).1 == (at1 l i).1) <;> rfl) (by
      unfold pledgeref13_fills.l2
      simp only [dec_f (show ¬ (i : Int) < (i : Int) by omega), cond_false])
    rw [show (((0 : Nat) : Int)) = 0 from rfl] at inner
    rw [inner, Option.bind_some]
    have w3 := succ_i64 (show i < 9223372036854775807 by omega)
    unfold alone
    cases ((at1 l i).1 == 0) with
    | true => simp
    | false =>
      cases ((at1 l i).2.1 != p.2.2.2.2.2.2.1) with
      | true => simp
      | false =>
        cases ((at1 l i).2.2.1 != p.2.2.2.2.2.2.2.2.1) with
        | true => simp
        | false =>
          cases decide ((at1 l i).2.2.2.1 < 1) with
          | true => simp
          | false =>
            cases allFrom (fun k => !((at1 l k).1 == (at1 l i).1)) 0 i with
            | false => rfl
            | true => simp only [cond_true, cond_false, w3, Bool.not_false, Bool.and_true]) (by
    unfold pledgeref13_fills.l1
    simp only [dec_f (show ¬ (l.length : Int) < (l.length : Int) by omega), cond_false])
  rw [show (((0 : Nat) : Int)) = 0 from rfl] at this
  rw [this, Option.bind_some]
  cases ha : allFrom (fillR p l) 0 l.length with
  | false => rfl
  | true =>
    simp only [cond_true, Bool.true_and]
    have hsku : ∀ x ∈ l, x.2.1 = p.2.2.2.2.2.2.1 := by
      intro x hx
      obtain ⟨i, hi, e⟩ := List.getElem_of_mem hx
      have h1 := (allFrom_iff.1 ha) i (by omega) (by omega)
      have ea : at1 l i = x := by unfold at1; rw [List.getD_eq_getElem?_getD, List.getElem?_eq_getElem hi, e]; rfl
      unfold fillR at h1
      rw [ea] at h1
      simp only [Bool.and_eq_true, Bool.not_eq_true', bne_eq_false_iff_eq] at h1
      exact h1.2.2.1
    have en : namedOf p.2.2.2.2.2.2.1 l [] = l.map qtyOf := by
      unfold namedOf
      rw [List.flatMap_nil, List.append_nil]
      exact flat_same hsku
    rw [refNamed_val _ l [] (by omega) (by simp) hw (by simp), Option.bind_some, en]
    cases decide ((l.length : Int) ≤ 12) <;> cases (sumOf (l.map qtyOf)).2.1 <;> rfl
end Go.Proofs.Pure

/- Which programs may be. -/
namespace Go.Proofs.Pure
open Go.Proofs.D Go.Proofs.F

def stillB (p : Prg) : Bool := (p.2.2.2.2.2.2.1 == 0) && ((p.2.2.2.2.2.2.2.1 == 0) && ((p.2.2.2.2.2.2.2.2.1 == 0) && (p.2.2.2.2.2.2.2.2.2.1 == 0)))
def bareB (p : Prg) : Bool := (p.2.2.1 == 0) && ((p.2.2.2.1.length : Int) == 0)
theorem still_val (p : Prg) : prog_still p = some (stillB p) := by
  unfold prog_still stillB
  cases (p.2.2.2.2.2.2.1 == 0) <;> cases (p.2.2.2.2.2.2.2.1 == 0) <;> cases (p.2.2.2.2.2.2.2.2.1 == 0) <;> rfl
theorem bare_val (p : Prg) : prog_bare p = some (bareB p) := by
  unfold prog_bare bareB
  cases (p.2.2.1 == 0) <;> rfl

def orderedB (p : Prg) : Bool := (p.2.1 != 0) && stillB p
def movedB (s w : Int) (p : Prg) : Bool := (p.2.1 == 0) && (bareB p && (((p.2.2.2.2.2.1.length : Int) == 0) && (decide (p.2.2.2.2.2.2.1 < s) && (decide (p.2.2.2.2.2.2.2.2.1 < w) && decide (p.2.2.2.2.2.2.2.2.2.1 ≥ 1)))))

def goodKind (s w : Int) (p : Prg) : Bool :=
  bif p.1 == 1 then orderedB p && (decide (p.2.2.1 ≤ 1) && (decide ((p.2.2.2.1.length : Int) > 0) && (linesB s p.2.2.2.1 && (takesB s w p.2.1 p.2.2.2.2.1 && (linesB s p.2.2.2.2.2.1 && (coveredB p.2.2.2.2.1 p.2.2.2.2.2.1 p.2.2.2.1 && ((p.2.2.1 == 0) || ((p.2.2.2.2.2.1.length : Int) == 0))))))))
  else bif p.1 == 2 then orderedB p && (bareB p && (takesB s w p.2.1 p.2.2.2.2.1 && (linesB s p.2.2.2.2.2.1 && decide ((p.2.2.2.2.1.length : Int) + (p.2.2.2.2.2.1.length : Int) > 0))))
  else bif (p.1 == 3) || (p.1 == 4) then orderedB p && (bareB p && (takesB s w p.2.1 p.2.2.2.2.1 && (decide ((p.2.2.2.2.1.length : Int) > 0) && ((p.2.2.2.2.2.1.length : Int) == 0))))
  else bif p.1 == 5 then movedB s w p && ((p.2.2.2.2.2.2.2.1 == 0) && fillsB p)
  else bif p.1 == 6 then movedB s w p && (((p.2.2.2.2.1.length : Int) == 0) && (decide (p.2.2.2.2.2.2.2.1 < w) && (p.2.2.2.2.2.2.2.1 != p.2.2.2.2.2.2.2.2.1)))
  else false
def fineB (s w : Int) : Bool := !decide (s < 1) && (!decide (s > 4) && (!decide (w < 1) && !decide (w > 4)))
def goodP (s w : Int) (p : Prg) : Bool := fineB s w && goodKind s w p

structure Few (p : Prg) : Prop where
  wf : WfE kProgram p
  lines : p.2.2.2.1.length ≤ 100
  takes : p.2.2.2.2.1.length ≤ 100
  owes : p.2.2.2.2.2.1.length ≤ 100

theorem takesB_lt {s w id : Int} {l : List Tk} (h : takesB s w id l = true) : ∀ x ∈ l, x.1 = id ∧ x.2.1 < s ∧ x.2.2.1 < w ∧ 1 ≤ x.2.2.2.1 := by
  unfold takesB at h
  simp only [Bool.and_eq_true, decide_eq_true_eq] at h
  intro x hx
  obtain ⟨i, hi, e⟩ := List.getElem_of_mem hx
  have := allFrom_at h.1 hi
  have ea : at1 l i = x := by unfold at1; rw [List.getD_eq_getElem?_getD, List.getElem?_eq_getElem hi, e]; rfl
  unfold takeR takeQ tkBase at this
  rw [ea] at this
  simp only [Bool.and_eq_true, Bool.not_eq_true', decide_eq_false_iff_not, bne_eq_false_iff_eq] at this
  obtain ⟨⟨⟨h1, h2, h3, h4⟩, _⟩, _⟩ := this
  exact ⟨h1, by omega, by omega, by omega⟩

theorem Few.w1 {p : Prg} (h : Few p) : ∀ x ∈ p.2.2.2.1, WfE kLine x := h.wf.2.2.2.1.2
theorem Few.w2 {p : Prg} (h : Few p) : ∀ x ∈ p.2.2.2.2.1, WfE kTake x := h.wf.2.2.2.2.1.2
theorem Few.w3 {p : Prg} (h : Few p) : ∀ x ∈ p.2.2.2.2.2.1, WfE kLine x := h.wf.2.2.2.2.2.1.2
theorem Few.k {p : Prg} (h : Few p) : (0 ≤ p.2.2.2.2.2.2.1 ∧ p.2.2.2.2.2.2.1 < 256) ∧ (0 ≤ p.2.2.2.2.2.2.2.1 ∧ p.2.2.2.2.2.2.2.1 < 256) ∧ (0 ≤ p.2.2.2.2.2.2.2.2.1 ∧ p.2.2.2.2.2.2.2.2.1 < 256) :=
  ⟨wf_u8 h.wf.2.2.2.2.2.2.1, wf_u8 h.wf.2.2.2.2.2.2.2.1, wf_u8 h.wf.2.2.2.2.2.2.2.2.1⟩

theorem covered_of {s w : Int} {p : Prg} (h : Few p) (hs : s ≤ 4) (h1 : linesB s p.2.2.2.1 = true) (h2 : takesB s w p.2.1 p.2.2.2.2.1 = true) (h3 : linesB s p.2.2.2.2.2.1 = true) :
    prog_covered p = some (coveredB p.2.2.2.2.1 p.2.2.2.2.2.1 p.2.2.2.1) := by
  have l1 := h.lines; have l2 := h.takes; have l3 := h.owes
  exact progCovered_val p (by omega) (by omega) (by omega) h.w2 h.w3
    (fun x hx => ⟨(wf_u8 (h.w1 x hx).1).1, by have := (linesB_lt h1 x hx).1; omega⟩) (fun x hx => ⟨(wf_u8 (h.w2 x hx).2.1).1, by have := (takesB_lt h2 x hx).2.1; omega⟩) (fun x hx => ⟨(wf_u8 (h.w3 x hx).1).1, by have := (linesB_lt h3 x hx).1; omega⟩)

theorem progGood_val (s w : Int) (p : Prg) (h : Few p) : prog_Good s w p = some (goodP s w p) := by
  have l1 := h.lines; have l2 := h.takes; have l3 := h.owes
  obtain ⟨k1, k2, k3⟩ := h.k
  unfold prog_Good goodP fineB
  cases hs1 : decide (s < 1) with
  | true => rfl
  | false =>
  cases hs2 : decide (s > 4) with
  | true => rfl
  | false =>
  cases hw1 : decide (w < 1) with
  | true => rfl
  | false =>
  cases hw2 : decide (w > 4) with
  | true => rfl
  | false =>
  have hs : s ≤ 4 := by simpa using hs2
  simp only [cond_false, Bool.not_false, Bool.true_and, still_val, bare_val, progLines_val s _ (show p.2.2.2.1.length < 1000 by omega) h.w1, progLines_val s _ (show p.2.2.2.2.2.1.length < 1000 by omega) h.w3, progTakes_val s w p (by omega) h.w2, progFills_val p (by omega) h.w2,
    wrap_i64 (show -9223372036854775808 ≤ p.2.2.2.2.2.2.1 by omega) (by omega), wrap_i64 (show -9223372036854775808 ≤ p.2.2.2.2.2.2.2.1 by omega) (by omega), wrap_i64 (show -9223372036854775808 ≤ p.2.2.2.2.2.2.2.2.1 by omega) (by omega),
    Option.bind_some, cond_some, fst_cond, snd_cond, Bool.cond_self, cond_no]
  have e34 : (bif p.1 == 3 then p.1 == 3 else p.1 == 4) = ((p.1 == 3) || (p.1 == 4)) := by cases (p.1 == 3) <;> rfl
  have hwr : IntKind.i64.wrap ((p.2.2.2.2.1.length : Int) + (p.2.2.2.2.2.1.length : Int)) = (p.2.2.2.2.1.length : Int) + (p.2.2.2.2.2.1.length : Int) := wrap_i64 (by omega) (by omega)
  unfold goodKind orderedB movedB
  rw [e34, hwr]
  cases p.1 == 1 with
  | false => simp only [cond_false, cond_no]
  | true =>
    simp only [cond_true]
    cases ((p.2.1 != 0) && stillB p) with
    | false => rfl
    | true =>
    cases decide (p.2.2.1 ≤ 1) with
    | false => rfl
    | true =>
    cases decide ((p.2.2.2.1.length : Int) > 0) with
    | false => rfl
    | true =>
    cases c1 : linesB s p.2.2.2.1 with
    | false => rfl
    | true =>
    cases c2 : takesB s w p.2.1 p.2.2.2.2.1 with
    | false => rfl
    | true =>
    cases c3 : linesB s p.2.2.2.2.2.1 with
    | false => rfl
    | true =>
    simp only [cond_true, Bool.true_and]
    rw [covered_of h hs c1 c2 c3, Option.bind_some, cond_yes]
end Go.Proofs.Pure

/- Which programs may be, by the document: the same. -/
namespace Go.Proofs.Pure
open Go.Proofs.D Go.Proofs.F

def sameP (x y : Prg) : Bool := (x.1 == y.1) && ((x.2.1 == y.2.1) && ((x.2.2.1 == y.2.2.1) && (sameL x.2.2.2.1 y.2.2.2.1 && (sameT x.2.2.2.2.1 y.2.2.2.2.1 && (sameL x.2.2.2.2.2.1 y.2.2.2.2.2.1 && ((x.2.2.2.2.2.2.1 == y.2.2.2.2.2.2.1) && ((x.2.2.2.2.2.2.2.1 == y.2.2.2.2.2.2.2.1) && ((x.2.2.2.2.2.2.2.2.1 == y.2.2.2.2.2.2.2.2.1) && (x.2.2.2.2.2.2.2.2.2.1 == y.2.2.2.2.2.2.2.2.2.1)))))))))
theorem sameP_refl (x : Prg) : sameP x x = true := by unfold sameP; simp [sameL_refl, sameT_refl]

theorem refSameP_val (x y : Prg) (h1 : x.2.2.2.1.length < 1000) (h2 : x.2.2.2.2.1.length < 1000) (h3 : x.2.2.2.2.2.1.length < 1000) : pledgeref13_Same x y = some (sameP x y) := by
  unfold pledgeref13_Same sameP
  rw [ref_equal_val _ _ h1, ref_equalT_val _ _ h2, ref_equal_val _ _ h3]
  simp only [Option.bind_some, cond_some, cond_no]

theorem sameL_nil (x : List Ln) : sameL x [] = ((x.length : Int) == 0) := by
  unfold sameL
  cases x with
  | nil => rfl
  | cons a x => rw [show ((a :: x).length == ([] : List Ln).length) = false by simp, show (((a :: x).length : Int) == 0) = false by rw [beq_eq_false_iff_ne]; simp only [List.length_cons]; omega]; rfl
theorem sameT_nil (x : List Tk) : sameT x [] = ((x.length : Int) == 0) := by
  unfold sameT
  cases x with
  | nil => rfl
  | cons a x => rw [show ((a :: x).length == ([] : List Tk).length) = false by simp, show (((a :: x).length : Int) == 0) = false by rw [beq_eq_false_iff_ne]; simp only [List.length_cons]; omega]; rfl

theorem refCovered_of {s : Int} {p : Prg} (h : Few p) (hs : s ≤ 4) (h1 : linesB s p.2.2.2.1 = true) : pledgeref13_covered p = some (coveredB p.2.2.2.2.1 p.2.2.2.2.2.1 p.2.2.2.1) := by
  have l1 := h.lines; have l2 := h.takes; have l3 := h.owes
  exact refCovered_val p hs h1 (by omega) (by omega) (by omega) h.w1 h.w2 h.w3

theorem refGoodP_val (s w : Int) (p : Prg) (h : Few p) : pledgeref13_Good s w p = some (goodP s w p) := by
  have l1 := h.lines; have l2 := h.takes; have l3 := h.owes
  obtain ⟨k1, k2, k3⟩ := h.k
  unfold pledgeref13_Good goodP fineB
  cases hs1 : decide (s < 1) with
  | true => rfl
  | false =>
  cases hs2 : decide (s > 4) with
  | true => rfl
  | false =>
  cases hw1 : decide (w < 1) with
  | true => rfl
  | false =>
  cases hw2 : decide (w > 4) with
  | true => rfl
  | false =>
  have hs : s ≤ 4 := by simpa using hs2
  simp only [cond_false, Bool.not_false, Bool.true_and, refLines_val s _ (show p.2.2.2.1.length < 1000 by omega) h.w1, refLines_val s _ (show p.2.2.2.2.2.1.length < 1000 by omega) h.w3, refTakes_val s w p (by omega) h.w2, refFills_val p (by omega) h.w2,
    wrap_i64 (show -9223372036854775808 ≤ p.2.2.2.2.2.2.1 by omega) (by omega), wrap_i64 (show -9223372036854775808 ≤ p.2.2.2.2.2.2.2.1 by omega) (by omega), wrap_i64 (show -9223372036854775808 ≤ p.2.2.2.2.2.2.2.2.1 by omega) (by omega),
    Option.bind_some, cond_some, fst_cond, snd_cond, Bool.cond_self]
  have e34 : (bif p.1 == 3 then p.1 == 3 else p.1 == 4) = ((p.1 == 3) || (p.1 == 4)) := by cases (p.1 == 3) <;> rfl
  have hwr : IntKind.i64.wrap ((p.2.2.2.2.1.length : Int) + (p.2.2.2.2.2.1.length : Int)) = (p.2.2.2.2.1.length : Int) + (p.2.2.2.2.2.1.length : Int) := wrap_i64 (by omega) (by omega)
  have hsame : ∀ q : Prg, pledgeref13_Same p q = some (sameP p q) := fun q => refSameP_val p q (by omega) (by omega) (by omega)
  have fin : ∀ (x : (Unit × Unit × Bool) × Prg × Prg × Unit), x.2.1 = p → ((some x).bind fun y47 => bif y47.1.2.2 then (pledgeref13_Same y47.2.1 y47.2.2.1).bind fun r48 => some r48 else some false) = some (x.1.2.2 && sameP p x.2.2.1) := by
    intro x hx
    rw [Option.bind_some, hx, hsame, Option.bind_some]
    cases x.1.2.2 <;> rfl
  unfold goodKind orderedB movedB
  by_cases c1 : p.1 = 1
  · simp only [show (p.1 == 1) = true by rw [beq_iff_eq]; exact c1, cond_true]
    cases (p.2.1 != 0) with
    | false => rfl
    | true =>
    cases decide (p.2.2.1 ≤ 1) with
    | false => rw [Bool.and_comm]; rfl
    | true =>
    cases decide ((p.2.2.2.1.length : Int) > 0) with
    | false => rw [Bool.and_comm]; rfl
    | true =>
    cases c2 : linesB s p.2.2.2.1 with
    | false => rw [Bool.and_comm]; rfl
    | true =>
    cases takesB s w p.2.1 p.2.2.2.2.1 with
    | false => rw [Bool.and_comm]; rfl
    | true =>
    cases linesB s p.2.2.2.2.2.1 with
    | false => rw [Bool.and_comm]; rfl
    | true =>
    simp only [cond_true, Bool.true_and]
    rw [refCovered_of h hs c2, Option.bind_some]
    cases coveredB p.2.2.2.2.1 p.2.2.2.2.2.1 p.2.2.2.1 with
    | false => rw [Bool.and_comm]; rfl
    | true =>
    have hst : sameP p (p.1, p.2.1, p.2.2.1, p.2.2.2.1, p.2.2.2.2.1, p.2.2.2.2.2.1, 0, 0, 0, 0, ()) = stillB p := by
      unfold sameP stillB
      simp only [beq_self_eq_true, sameL_refl, sameT_refl, Bool.true_and]
    simp only [cond_true, Bool.true_and]
    cases (p.2.2.1 == 0) with
    | true => simp only [cond_true]; refine (fin _ rfl).trans ?_; simp only [hst, Bool.true_or, Bool.true_and, Bool.and_true]
    | false => simp only [cond_false]; refine (fin _ rfl).trans ?_; simp only [hst, Bool.false_or, Bool.and_comm]
  simp only [show (p.1 == 1) = false by rw [beq_eq_false_iff_ne]; exact c1, cond_false, e34, hwr]
  by_cases c2 : p.1 = 2
  · simp only [show (p.1 == 2) = true by rw [beq_iff_eq]; exact c2, cond_true]
    have hst : sameP p (p.1, p.2.1, 0, [], p.2.2.2.2.1, p.2.2.2.2.2.1, 0, 0, 0, 0, ()) = (bareB p && stillB p) := by
      unfold sameP stillB bareB
      simp only [beq_self_eq_true, sameL_refl, sameT_refl, sameL_nil, Bool.true_and, Bool.and_assoc]
    cases (p.2.1 != 0) with
    | false => rfl
    | true =>
    cases takesB s w p.2.1 p.2.2.2.2.1 with
    | false => simp
    | true =>
    cases linesB s p.2.2.2.2.2.1 with
    | false => simp
    | true =>
    simp only [cond_true]
    refine (fin _ rfl).trans ?_
    simp only [hst, Bool.true_and]
    cases decide ((p.2.2.2.2.1.length : Int) + (p.2.2.2.2.2.1.length : Int) > 0) <;> cases bareB p <;> cases stillB p <;> rfl
  simp only [show (p.1 == 2) = false by rw [beq_eq_false_iff_ne]; exact c2, cond_false]
  cases c34 : ((p.1 == 3) || (p.1 == 4)) with
  | true =>
    simp only [cond_true]
    have hst : sameP p (p.1, p.2.1, 0, [], p.2.2.2.2.1, [], 0, 0, 0, 0, ()) = (bareB p && (((p.2.2.2.2.2.1.length : Int) == 0) && stillB p)) := by
      unfold sameP stillB bareB
      simp only [beq_self_eq_true, sameT_refl, sameL_nil, Bool.true_and, Bool.and_assoc]
    cases (p.2.1 != 0) with
    | false => rfl
    | true =>
    cases takesB s w p.2.1 p.2.2.2.2.1 with
    | false => simp
    | true =>
    simp only [cond_true]
    refine (fin _ rfl).trans ?_
    simp only [hst, Bool.true_and]
    cases decide ((p.2.2.2.2.1.length : Int) > 0) <;> cases bareB p <;> cases stillB p <;> cases ((p.2.2.2.2.2.1.length : Int) == 0) <;> rfl
  | false =>
    simp only [cond_false]
    by_cases c5 : p.1 = 5
    · simp only [show (p.1 == 5) = true by rw [beq_iff_eq]; exact c5, cond_true]
      have hst : sameP p (p.1, 0, 0, [], p.2.2.2.2.1, [], p.2.2.2.2.2.2.1, 0, p.2.2.2.2.2.2.2.2.1, p.2.2.2.2.2.2.2.2.2.1, ()) = ((p.2.1 == 0) && (bareB p && (((p.2.2.2.2.2.1.length : Int) == 0) && (p.2.2.2.2.2.2.2.1 == 0)))) := by
        unfold sameP bareB
        simp only [beq_self_eq_true, sameT_refl, sameL_nil, Bool.true_and, Bool.and_assoc, Bool.and_true]
      cases decide (p.2.2.2.2.2.2.1 < s) with
      | false => simp
      | true =>
      cases decide (p.2.2.2.2.2.2.2.2.1 < w) with
      | false => simp
      | true =>
      cases decide (p.2.2.2.2.2.2.2.2.2.1 ≥ 1) with
      | false => simp
      | true =>
      simp only [cond_true]
      refine (fin _ rfl).trans ?_
      simp only [hst]
      cases fillsB p <;> cases (p.2.1 == 0) <;> cases bareB p <;> cases ((p.2.2.2.2.2.1.length : Int) == 0) <;> cases (p.2.2.2.2.2.2.2.1 == 0) <;> rfl
    simp only [show (p.1 == 5) = false by rw [beq_eq_false_iff_ne]; exact c5, cond_false]
    by_cases c6 : p.1 = 6
    · simp only [show (p.1 == 6) = true by rw [beq_iff_eq]; exact c6, cond_true]
      have hst : sameP p (6, 0, 0, [], [], [], p.2.2.2.2.2.2.1, p.2.2.2.2.2.2.2.1, p.2.2.2.2.2.2.2.2.1, p.2.2.2.2.2.2.2.2.2.1, ()) = ((p.2.1 == 0) && (bareB p && (((p.2.2.2.2.1.length : Int) == 0) && ((p.2.2.2.2.2.1.length : Int) == 0)))) := by
        unfold sameP bareB
        simp only [show (p.1 == 6) = true by rw [beq_iff_eq]; exact c6, beq_self_eq_true, sameT_nil, sameL_nil, Bool.true_and, Bool.and_assoc, Bool.and_true]
      cases decide (p.2.2.2.2.2.2.1 < s) with
      | false => simp
      | true =>
      cases decide (p.2.2.2.2.2.2.2.1 < w) with
      | false => simp
      | true =>
      cases decide (p.2.2.2.2.2.2.2.2.1 < w) with
      | false => simp
      | true =>
      cases (p.2.2.2.2.2.2.2.1 != p.2.2.2.2.2.2.2.2.1) with
      | false => simp
      | true =>
      simp only [cond_true]
      refine (fin _ rfl).trans ?_
      simp only [hst]
      cases decide (p.2.2.2.2.2.2.2.2.2.1 ≥ 1) <;> cases (p.2.1 == 0) <;> cases bareB p <;> cases ((p.2.2.2.2.2.1.length : Int) == 0) <;> cases ((p.2.2.2.2.1.length : Int) == 0) <;> rfl
    simp only [show (p.1 == 6) = false by rw [beq_eq_false_iff_ne]; exact c6, cond_false]
    rfl
end Go.Proofs.Pure

/- Steps: which are the same, which may be. -/
namespace Go.Proofs.Pure
open Go.Proofs.D Go.Proofs.F

/-! ### Which may be -/
def fineS (s w : Int) : Bool := decide (1 ≤ s) && decide (s ≤ 4) && decide (1 ≤ w) && decide (w ≤ 4)
def keyB (s w k a : Int) : Bool := fineS s w && decide (k < s) && decide (a < w)

theorem key_fine_val (s w : Int) : key_fine s w = some (fineS s w) := by
  unfold key_fine fineS
  by_cases h1 : 1 ≤ s <;> by_cases h2 : s ≤ 4 <;> by_cases h3 : 1 ≤ w <;> by_cases h4 : w ≤ 4 <;> simp [h1, h2, h3, h4]

theorem key_good_val (s w k a : Int) (hk : 0 ≤ k ∧ k < 256) (ha : 0 ≤ a ∧ a < 256) : key_Good s w (1, (k, (a, ()))) = some (keyB s w k a) := by
  unfold key_Good keyB
  rw [key_fine_val]
  have e1 : IntKind.i64.wrap k = k := wrap_i64 (by omega) (by omega)
  have e2 : IntKind.i64.wrap a = a := wrap_i64 (by omega) (by omega)
  have e3 : key_both 1 = some true := rfl
  simp only [Option.bind_some, e1, e2, e3, show decide ((1 : Int) < 1) = false by decide, show decide ((1 : Int) > 4) = false by decide, cond_false]
  cases fineS s w with
  | false => rfl
  | true =>
    by_cases h1 : k ≥ s
    · rw [dec_t h1, dec_f (by omega : ¬ k < s)]; rfl
    · rw [dec_f h1, dec_t (by omega : k < s)]
      by_cases h2 : a < w
      · rw [dec_t h2]; rfl
      · rw [dec_f h2]; rfl

theorem wf_line {l : List Ln} (h : ∀ x ∈ l, WfE kLine x) {i : Nat} (hi : i < l.length) : (0 ≤ (at0 l i).1 ∧ (at0 l i).1 < 256) ∧ -9223372036854775808 ≤ (at0 l i).2.1 ∧ (at0 l i).2.1 < 9223372036854775808 := by
  have := h (at0 l i) (by have := at_get hi; exact List.mem_of_getElem? this)
  exact ⟨wf_u8 this.1, wf_i64 this.2.1⟩

def risesB (l : List Ln) (i : Nat) : Bool := Nat.beq i 0 || decide ((at0 l (i - 1)).1 < (at0 l i).1)
def goodA (s w a : Int) (l : List Ln) (i : Nat) : Bool := decide (1 ≤ (at0 l i).2.1) && risesB l i && keyB s w (at0 l i).1 a
def goodR (s : Int) (l : List Ln) (i : Nat) : Bool := decide ((at0 l i).1 < s) && decide (1 ≤ (at0 l i).2.1) && risesB l i

theorem stepGood_loop (s w : Int) (x : Stp) (hl : x.2.2.1.length < 1000) (hw : ∀ y ∈ x.2.2.1, WfE kLine y) (ha : 0 ≤ x.2.1 ∧ x.2.1 < 256) :
    iterL step_Good.l1 loopN ((s, (w, ((), (x.2.2.1, ((x.2.2.1.length : Int), 0))))), (x, ())) = some (bif allFrom (goodA s w x.2.1 x.2.2.1) 0 x.2.2.1.length then .inl () else .inr false) := by
  have := loop_all (step := step_Good.l1) (fun i => ((s, (w, ((), (x.2.2.1, ((x.2.2.1.length : Int), (i : Int)))))), (x, ()))) (goodA s w x.2.1 x.2.2.1) (.inl ()) (.inr false) x.2.2.1.length (by omega) (fun i hi => by
    have hw1 := wf_line hw hi
    unfold step_Good.l1 goodA
    simp only [dec_t (show (i : Int) < (x.2.2.1.length : Int) by omega), cond_true]
    rw [nthK_get (at_get hi)]
    by_cases q : (at0 x.2.2.1 i).2.1 < 1
    · rw [dec_t q, dec_f (by omega : ¬ 1 ≤ (at0 x.2.2.1 i).2.1)]; rfl
    · rw [dec_f q, dec_t (by omega : 1 ≤ (at0 x.2.2.1 i).2.1)]
      simp only [cond_false, Bool.true_and, key_good_val s w _ _ hw1.1 ha, Option.bind_some, succ_i64 (show i < 9223372036854775807 by omega)]
      unfold risesB
      cases i with
      | zero =>
        rw [dec_f (by omega : ¬ ((0 : Nat) : Int) > 0)]
        simp only [cond_false, Nat.beq_refl, Bool.true_or, Bool.true_and]
        cases keyB s w (at0 x.2.2.1 0).1 x.2.1 <;> rfl
      | succ i =>
        have e : IntKind.i64.wrap (((i + 1 : Nat) : Int) - 1) = (i : Int) := by rw [wrap_i64 (by omega) (by omega)]; omega
        rw [dec_t (by omega : ((i + 1 : Nat) : Int) > 0)]
        simp only [cond_true, e]
        rw [nthK_get (at_get (by omega : i < x.2.2.1.length))]
        rw [show Nat.beq (i + 1) 0 = false from rfl, Bool.false_or, Nat.add_sub_cancel]
        by_cases r : (at0 x.2.2.1 i).1 ≥ (at0 x.2.2.1 (i + 1)).1
        · rw [dec_t r, dec_f (by omega : ¬ (at0 x.2.2.1 i).1 < (at0 x.2.2.1 (i + 1)).1)]; rfl
        · rw [dec_f r, dec_t (by omega : (at0 x.2.2.1 i).1 < (at0 x.2.2.1 (i + 1)).1)]
          simp only [cond_false, Bool.true_and]
          cases keyB s w (at0 x.2.2.1 (i + 1)).1 x.2.1 <;> rfl) (by
    unfold step_Good.l1
    simp only [dec_f (show ¬ (x.2.2.1.length : Int) < (x.2.2.1.length : Int) by omega), cond_false])
  rw [show (((0 : Nat) : Int)) = 0 from rfl] at this
  exact this

theorem lines12_loop (s : Int) (l : List Ln) (hl : l.length < 1000) (hw : ∀ y ∈ l, WfE kLine y) : iterL pledgeref12_Lines.l1 loopN (s, (l, 0)) = some (bif allFrom (goodR s l) 0 l.length then .inl l else .inr false) := by
  have := loop_all (step := pledgeref12_Lines.l1) (fun i => (s, (l, (i : Int)))) (goodR s l) (.inl l) (.inr false) l.length (by omega) (fun i hi => by
    have hw1 := wf_line hw hi
    have e1 : IntKind.i64.wrap (at0 l i).1 = (at0 l i).1 := wrap_i64 (by omega) (by omega)
    unfold pledgeref12_Lines.l1 goodR
    simp only [dec_t (show (i : Int) < (l.length : Int) by omega), cond_true]
    rw [nthK_get (at_get hi), e1]
    by_cases q0 : (at0 l i).1 ≥ s
    · rw [dec_t q0, dec_f (by omega : ¬ (at0 l i).1 < s)]; rfl
    · rw [dec_f q0, dec_t (by omega : (at0 l i).1 < s)]
      simp only [cond_false, Bool.true_and]
      rw [nthK_get (at_get hi)]
      by_cases q : (at0 l i).2.1 < 1
      · rw [dec_t q, dec_f (by omega : ¬ 1 ≤ (at0 l i).2.1)]; rfl
      · rw [dec_f q, dec_t (by omega : 1 ≤ (at0 l i).2.1)]
        simp only [cond_false, Bool.true_and, succ_i64 (show i < 9223372036854775807 by omega)]
        unfold risesB
        cases i with
        | zero =>
          rw [dec_f (by omega : ¬ ((0 : Nat) : Int) > 0)]
          rfl
        | succ i =>
          have e : IntKind.i64.wrap (((i + 1 : Nat) : Int) - 1) = (i : Int) := by rw [wrap_i64 (by omega) (by omega)]; omega
          rw [dec_t (by omega : ((i + 1 : Nat) : Int) > 0)]
          simp only [cond_true, e]
          rw [nthK_get (at_get (by omega : i < l.length)), nthK_get (at_get hi)]
          rw [show Nat.beq (i + 1) 0 = false from rfl, Bool.false_or, Nat.add_sub_cancel]
          by_cases r : (at0 l i).1 ≥ (at0 l (i + 1)).1
          · rw [dec_t r, dec_f (by omega : ¬ (at0 l i).1 < (at0 l (i + 1)).1)]; rfl
          · rw [dec_f r, dec_t (by omega : (at0 l i).1 < (at0 l (i + 1)).1)]; rfl) (by
    unfold pledgeref12_Lines.l1
    simp only [dec_f (show ¬ (l.length : Int) < (l.length : Int) by omega), cond_false])
  rw [show (((0 : Nat) : Int)) = 0 from rfl] at this
  exact this

theorem lines12_val (s : Int) (l : List Ln) (hl : l.length < 1000) (hw : ∀ y ∈ l, WfE kLine y) : pledgeref12_Lines s l = some (allFrom (goodR s l) 0 l.length && decide (l.length ≤ 3)) := by
  unfold pledgeref12_Lines
  rw [lines12_loop s l hl hw, Option.bind_some]
  cases allFrom (goodR s l) 0 l.length with
  | false => rfl
  | true =>
    simp only [cond_true, Bool.true_and]
    congr 1
    by_cases h : l.length ≤ 3
    · rw [dec_t h, dec_t (by omega : (l.length : Int) ≤ 3)]
    · rw [dec_f h, dec_f (by omega : ¬ (l.length : Int) ≤ 3)]

/-- Which steps may be. -/
def goodS (s w : Int) (x : Stp) : Bool := fineS s w && decide (1 ≤ x.1) && decide (x.1 ≤ 8) && decide (1 ≤ x.2.2.1.length) && decide (x.2.2.1.length ≤ 3) && allFrom (goodR s x.2.2.1) 0 x.2.2.1.length && (bif decide (7 ≤ x.1) then x.2.1 == 0 else decide (x.2.1 < w))

theorem stepGood_val (s w : Int) (x : Stp) (hx : WfE kStep x) (hl : x.2.2.1.length < 1000) : step_Good s w x = some (goodS s w x) := by
  obtain ⟨h1, h2, ⟨_, h3⟩, _⟩ := hx
  have w2 := wf_u8 h2
  -- the loop's result, where there is something
  have key : 1 ≤ x.2.2.1.length → (allFrom (goodA s w x.2.1 x.2.2.1) 0 x.2.2.1.length = (fineS s w && allFrom (goodR s x.2.2.1) 0 x.2.2.1.length && decide (x.2.1 < w))) := fun hpos => boolEq (by
    simp only [Bool.and_eq_true, allFrom_iff, decide_eq_true_eq]
    unfold goodA goodR keyB
    simp only [Bool.and_eq_true, decide_eq_true_eq]
    constructor
    · intro h
      have h0 := h 0 (by omega) (by omega)
      exact ⟨⟨h0.2.1.1, fun j a b => by have := h j a b; exact ⟨⟨this.2.1.2, this.1.1⟩, this.1.2⟩⟩, h0.2.2⟩
    · rintro ⟨⟨h4, h5⟩, h6⟩ j a b
      have := h5 j a b
      exact ⟨⟨this.1.2, this.2⟩, ⟨h4, this.1.1⟩, h6⟩)
  unfold step_Good goodS
  by_cases c5 : x.1 < 1
  · rw [dec_t c5, dec_f (by omega : ¬ 1 ≤ x.1)]; simp
  by_cases c6 : x.1 > 8
  · rw [dec_f c5, dec_t c6, dec_f (by omega : ¬ x.1 ≤ 8)]; simp
  by_cases c7 : (x.2.2.1.length : Int) < 1
  · rw [dec_f c5, dec_f c6, dec_t c7, dec_f (by omega : ¬ 1 ≤ x.2.2.1.length)]; simp
  by_cases c8 : (x.2.2.1.length : Int) > 3
  · rw [dec_f c5, dec_f c6, dec_f c7, dec_t c8, dec_f (by omega : ¬ x.2.2.1.length ≤ 3)]; simp
  rw [dec_f c5, dec_f c6, dec_f c7, dec_f c8, dec_t (by omega : 1 ≤ x.1), dec_t (by omega : x.1 ≤ 8), dec_t (by omega : 1 ≤ x.2.2.1.length), dec_t (by omega : x.2.2.1.length ≤ 3)]
  simp only [cond_false, Bool.and_true]
  have hware : step_atWare x.1 = some (decide (x.1 < 7)) := by
    unfold step_atWare
    by_cases a : x.1 = 7
    · rw [show ((x.1 : Int) != 7) = false by simp [a], dec_f (by omega : ¬ x.1 < 7)]; rfl
    · rw [show ((x.1 : Int) != 7) = true by simp [a]]
      by_cases b : x.1 = 8
      · rw [show ((x.1 : Int) != 8) = false by simp [b], dec_f (by omega : ¬ x.1 < 7)]; rfl
      · rw [show ((x.1 : Int) != 8) = true by simp [b], dec_t (by omega : x.1 < 7)]; rfl
  rw [hware, Option.bind_some]
  have fin : ((some (Sum.inl ((s, (w, ())), (x, ()))) : Option (((Int × Int × Unit) × Stp × Unit) ⊕ Bool)).bind fun y12 => (match y12 with | .inl y13 => (iterL step_Good.l1 loopN ((y13.1.1, (y13.1.2.1, ((), (y13.2.1.2.2.1, ((y13.2.1.2.2.1.length : Int), 0))))), (y13.2.1, ()))).bind fun y19 => (match y19 with | .inl y20 => some true | .inr y21 => some y21) | .inr y14 => some y14)) =
      some (allFrom (goodA s w x.2.1 x.2.2.1) 0 x.2.2.1.length) := by
    simp only [Option.bind_some]
    rw [stepGood_loop s w x hl h3 w2, Option.bind_some]
    cases allFrom (goodA s w x.2.1 x.2.2.1) 0 x.2.2.1.length <;> rfl
  by_cases c9 : x.1 < 7
  · rw [dec_t c9, dec_f (by omega : ¬ 7 ≤ x.1)]
    simp only [Bool.not_true, cond_false]
    refine Eq.trans fin ?_
    rw [key (by omega)]
  · rw [dec_f c9, dec_t (by omega : 7 ≤ x.1)]
    simp only [Bool.not_false, cond_true]
    by_cases c10 : x.2.1 = 0
    · rw [show ((x.2.1 : Int) != 0) = false by simp [c10], show (x.2.1 == 0) = true by simp [c10]]
      simp only [cond_false]
      refine Eq.trans fin ?_
      rw [key (by omega), c10]
      congr 1
      refine boolEq ?_
      unfold fineS
      simp only [Bool.and_eq_true, decide_eq_true_eq]
      constructor
      · rintro ⟨a, b⟩; exact ⟨a, trivial⟩
      · rintro ⟨a, b⟩; exact ⟨a, by omega⟩
    · rw [show ((x.2.1 : Int) != 0) = true by simp [c10], show (x.2.1 == 0) = false by simp [c10]]
      simp
end Go.Proofs.Pure

/- Takes in order, warehouse by warehouse. -/
namespace Go.Proofs.Pure
open Go.Proofs.D Go.Proofs.F

def lineOf (x : Tk) : Ln := (x.2.1, (x.2.2.2.1, ()))
def itemG (w : Int) (x : Tk) : List Ln := bif x.2.2.1 == w then [lineOf x] else []
def itemsAt (w : Int) (l : List Tk) : List Ln := l.flatMap (itemG w)
def grp1 (tg w : Int) : List Ln → List Stp | [] => [] | a :: l => [(tg, (w, (a :: l, ())))]
def grps (tg : Int) (l : List Tk) : List Stp := grp1 tg 0 (itemsAt 0 l) ++ (grp1 tg 1 (itemsAt 1 l) ++ (grp1 tg 2 (itemsAt 2 l) ++ grp1 tg 3 (itemsAt 3 l)))

theorem itemsAt_snoc (w : Int) (l : List Tk) (x : Tk) : itemsAt w (l ++ [x]) = itemsAt w l ++ itemG w x := by
  unfold itemsAt; rw [List.flatMap_append]; simp
theorem itemG_yes {w : Int} {x : Tk} (h : x.2.2.1 = w) : itemG w x = [lineOf x] := by unfold itemG; rw [show (x.2.2.1 == w) = true by simp [h]]; rfl
theorem itemG_no {w : Int} {x : Tk} (h : x.2.2.1 ≠ w) : itemG w x = [] := by unfold itemG; rw [show (x.2.2.1 == w) = false by simp [h]]; rfl
theorem itemsAt_nil {w : Int} : ∀ {l : List Tk}, (∀ y ∈ l, y.2.2.1 ≠ w) → itemsAt w l = []
  | [], _ => rfl
  | y :: l, h => by
    show itemG w y ++ itemsAt w l = []
    rw [itemG_no (h y List.mem_cons_self), itemsAt_nil fun z hz => h z (List.mem_cons_of_mem _ hz)]; rfl
theorem itemsAt_ne {w : Int} : ∀ {l : List Tk} {y : Tk}, y ∈ l → y.2.2.1 = w → itemsAt w l ≠ []
  | z :: l, y, h, e => by
    show itemG w z ++ itemsAt w l ≠ []
    rcases List.mem_cons.1 h with q | q
    · subst q; rw [itemG_yes e]; simp
    · have := itemsAt_ne q e; simp [this]
theorem grp1_ne {tg w : Int} {a : List Ln} (h : a ≠ []) : grp1 tg w a = [(tg, (w, (a, ())))] := by cases a with | nil => exact absurd rfl h | cons _ _ => rfl

theorem grps_new {tg : Int} {l : List Tk} {x : Tk} (hk : 0 ≤ x.2.2.1 ∧ x.2.2.1 < 4) (hs : ∀ y ∈ l, y.2.2.1 ≤ x.2.2.1) (hn : itemsAt x.2.2.1 l = []) : grps tg (l ++ [x]) = grps tg l ++ [(tg, (x.2.2.1, ([lineOf x], ())))] := by
  unfold grps
  simp only [itemsAt_snoc]
  rcases four hk with e | e | e | e
  · rw [itemsAt_nil (w := 1) fun y hy q => by have := hs y hy; omega, itemsAt_nil (w := 2) fun y hy q => by have := hs y hy; omega, itemsAt_nil (w := 3) fun y hy q => by have := hs y hy; omega]
    rw [e] at hn ⊢
    rw [hn, itemG_yes e, itemG_no (w := 1) (by omega), itemG_no (w := 2) (by omega), itemG_no (w := 3) (by omega)]; rfl
  · rw [itemsAt_nil (w := 2) fun y hy q => by have := hs y hy; omega, itemsAt_nil (w := 3) fun y hy q => by have := hs y hy; omega]
    rw [e] at hn ⊢
    rw [hn, itemG_yes e, itemG_no (w := 0) (by omega), itemG_no (w := 2) (by omega), itemG_no (w := 3) (by omega)]; simp [grp1]
  · rw [itemsAt_nil (w := 3) fun y hy q => by have := hs y hy; omega]
    rw [e] at hn ⊢
    rw [hn, itemG_yes e, itemG_no (w := 0) (by omega), itemG_no (w := 1) (by omega), itemG_no (w := 3) (by omega)]; simp [grp1]
  · rw [e] at hn ⊢
    rw [hn, itemG_yes e, itemG_no (w := 0) (by omega), itemG_no (w := 1) (by omega), itemG_no (w := 2) (by omega)]; simp [grp1]

theorem grps_old {tg : Int} {l : List Tk} {x : Tk} (hk : 0 ≤ x.2.2.1 ∧ x.2.2.1 < 4) (hs : ∀ y ∈ l, y.2.2.1 ≤ x.2.2.1) (hn : itemsAt x.2.2.1 l ≠ []) :
    ∃ pre a, grps tg l = pre ++ [(tg, (x.2.2.1, (a, ())))] ∧ grps tg (l ++ [x]) = pre ++ [(tg, (x.2.2.1, (a ++ [lineOf x], ())))] := by
  have hne : itemsAt x.2.2.1 l ++ [lineOf x] ≠ [] := by simp
  unfold grps
  simp only [itemsAt_snoc]
  rcases four hk with e | e | e | e
  · rw [itemsAt_nil (w := 1) fun y hy q => by have := hs y hy; omega, itemsAt_nil (w := 2) fun y hy q => by have := hs y hy; omega, itemsAt_nil (w := 3) fun y hy q => by have := hs y hy; omega]
    rw [e] at hn hne ⊢
    rw [itemG_yes e, itemG_no (w := 1) (by omega), itemG_no (w := 2) (by omega), itemG_no (w := 3) (by omega), grp1_ne hn, grp1_ne hne]
    exact ⟨[], itemsAt 0 l, by simp [grp1], by simp [grp1]⟩
  · rw [itemsAt_nil (w := 2) fun y hy q => by have := hs y hy; omega, itemsAt_nil (w := 3) fun y hy q => by have := hs y hy; omega]
    rw [e] at hn hne ⊢
    rw [itemG_yes e, itemG_no (w := 0) (by omega), itemG_no (w := 2) (by omega), itemG_no (w := 3) (by omega), grp1_ne hn, grp1_ne hne]
    exact ⟨grp1 tg 0 (itemsAt 0 l), itemsAt 1 l, by simp [grp1], by simp [grp1]⟩
  · rw [itemsAt_nil (w := 3) fun y hy q => by have := hs y hy; omega]
    rw [e] at hn hne ⊢
    rw [itemG_yes e, itemG_no (w := 0) (by omega), itemG_no (w := 1) (by omega), itemG_no (w := 3) (by omega), grp1_ne hn, grp1_ne hne]
    exact ⟨grp1 tg 0 (itemsAt 0 l) ++ grp1 tg 1 (itemsAt 1 l), itemsAt 2 l, by simp [grp1], by simp [grp1]⟩
  · rw [e] at hn hne ⊢
    rw [itemG_yes e, itemG_no (w := 0) (by omega), itemG_no (w := 1) (by omega), itemG_no (w := 2) (by omega), grp1_ne hn, grp1_ne hne]
    exact ⟨grp1 tg 0 (itemsAt 0 l) ++ (grp1 tg 1 (itemsAt 1 l) ++ grp1 tg 2 (itemsAt 2 l)), itemsAt 3 l, by simp [grp1], by simp [grp1]⟩

/-- Takes in order: by warehouse, and article. -/
structure Sorted (id : Int) (t : List Tk) : Prop where
  base : ∀ i, i < t.length → (at1 t i).1 = id ∧ (0 ≤ (at1 t i).2.1 ∧ (at1 t i).2.1 < 4) ∧ (0 ≤ (at1 t i).2.2.1 ∧ (at1 t i).2.2.1 < 4) ∧ 1 ≤ (at1 t i).2.2.2.1
  rise : ∀ i j, i < j → j < t.length → (at1 t i).2.2.1 < (at1 t j).2.2.1 ∨ (at1 t i).2.2.1 = (at1 t j).2.2.1 ∧ (at1 t i).2.1 < (at1 t j).2.1
  apart : ∀ i, i + 3 < t.length → (at1 t i).2.2.1 ≠ (at1 t (i + 3)).2.2.1

theorem sorted_of {id : Int} {t : List Tk} (hw : ∀ x ∈ t, WfE kTake x) (h : takesB 4 4 id t = true) : Sorted id t := by
  unfold takesB at h
  simp only [Bool.and_eq_true, decide_eq_true_eq] at h
  have hq := fun i (hi : i < t.length) => allFrom_at h.1 hi
  have hb : ∀ i, i < t.length → (at1 t i).1 = id ∧ (0 ≤ (at1 t i).2.1 ∧ (at1 t i).2.1 < 4) ∧ (0 ≤ (at1 t i).2.2.1 ∧ (at1 t i).2.2.1 < 4) ∧ 1 ≤ (at1 t i).2.2.2.1 := fun i hi => by
    have h1 := hq i hi
    have h2 := wfT hw hi
    unfold takeR takeQ tkBase at h1
    simp only [Bool.and_eq_true, Bool.not_eq_true', decide_eq_false_iff_not, bne_eq_false_iff_eq] at h1
    obtain ⟨⟨⟨a, b, c, d⟩, _⟩, _⟩ := h1
    exact ⟨a, by omega, by omega, by omega⟩
  have adj : ∀ i, i + 1 < t.length → (at1 t i).2.2.1 < (at1 t (i + 1)).2.2.1 ∨ (at1 t i).2.2.1 = (at1 t (i + 1)).2.2.1 ∧ (at1 t i).2.1 < (at1 t (i + 1)).2.1 := fun i hi => by
    have h1 := hq (i + 1) hi
    unfold takeR takeQ tkPrev at h1
    simp only [Bool.and_eq_true, Bool.or_eq_true, Bool.not_eq_true', decide_eq_false_iff_not, Bool.and_eq_false_iff, beq_eq_false_iff_ne, ne_eq, Nat.add_sub_cancel] at h1
    obtain ⟨⟨_, hp⟩, _⟩ := h1
    rcases hp with q | ⟨q1, q2⟩
    · cases q
    · by_cases e : (at1 t i).2.2.1 = (at1 t (i + 1)).2.2.1
      · exact .inr ⟨e, by rcases q2 with q | q; exact absurd e q; omega⟩
      · exact .inl (by omega)
  refine ⟨hb, fun i j hij => ?_, fun i hi q => ?_⟩
  · induction j with
    | zero => omega
    | succ j ih =>
      intro hj
      have h1 := adj j hj
      by_cases e : i = j
      · subst e; exact h1
      · have h2 := ih (by omega) (by omega)
        omega
  · have h1 := hq (i + 3) hi
    unfold takeR at h1
    simp only [Bool.and_eq_true, Bool.or_eq_true, Bool.not_eq_true', beq_eq_false_iff_ne, ne_eq, Nat.add_sub_cancel] at h1
    rcases h1.2 with q1 | q1
    · have := Nat.le_of_ble_eq_true q1; omega
    · exact q1 q

theorem take_snoc {t : List Tk} {j : Nat} (h : j < t.length) : t.take (j + 1) = t.take j ++ [at1 t j] := by
  rw [List.take_add_one, at1_get h]; rfl
theorem drop_cons {t : List Tk} {j : Nat} (h : j < t.length) : t.drop j = at1 t j :: t.drop (j + 1) := by
  rw [List.drop_eq_getElem_cons h]
  have := at1_get h
  rw [List.getElem?_eq_getElem h] at this
  rw [Option.some.inj this]
theorem mem_take {t : List Tk} {j : Nat} {y : Tk} (h : y ∈ t.take j) : ∃ i, i < j ∧ i < t.length ∧ y = at1 t i := by
  obtain ⟨i, hi, e⟩ := List.getElem_of_mem h
  have hi2 : i < j ∧ i < t.length := by simp at hi; omega
  refine ⟨i, hi2.1, hi2.2, ?_⟩
  have := at1_get hi2.2
  rw [List.getElem?_eq_getElem hi2.2] at this
  rw [← e, ← Option.some.inj this]; simp

section
variable {id : Int} {t : List Tk}
theorem Sorted.le (h : Sorted id t) {j : Nat} (hj : j < t.length) : ∀ y ∈ t.take j, y.2.2.1 ≤ (at1 t j).2.2.1 := fun y hy => by
  obtain ⟨i, h1, h2, e⟩ := mem_take hy
  subst e
  have := h.rise i j h1 hj; omega
theorem Sorted.new (h : Sorted id t) {j : Nat} (hj : j + 1 < t.length) (hn : (at1 t j).2.2.1 ≠ (at1 t (j + 1)).2.2.1) : itemsAt (at1 t (j + 1)).2.2.1 (t.take (j + 1)) = [] := by
  refine itemsAt_nil fun y hy q => ?_
  obtain ⟨i, h1, h2, e⟩ := mem_take hy
  subst e
  have h3 := h.rise j (j + 1) (by omega) hj
  by_cases e : i = j
  · subst e; exact hn q
  · have h4 := h.rise i j (by omega) (by omega); omega

theorem stepsGo_val (h : Sorted id t) (tg : Int) : ∀ (k j : Nat), j + k = t.length → prog_Steps.stepsGo tg t j (t.drop j) (grps tg (t.take j)) = some (grps tg t)
  | 0, j, hj => by
    have : j = t.length := by omega
    subst this
    rw [List.drop_length, List.take_length]; rfl
  | k + 1, j, hj => by
    have hlt : j < t.length := by omega
    have ih := stepsGo_val h tg k (j + 1) (by omega)
    rw [take_snoc hlt] at ih
    have hb := (h.base j hlt).2.2.1
    rw [drop_cons hlt]
    have new : itemsAt (at1 t j).2.2.1 (t.take j) = [] → prog_Steps.stepsGo tg t (j + 1) (t.drop (j + 1)) (grps tg (t.take j) ++ [(tg, ((at1 t j).2.2.1, ([((at1 t j).2.1, ((at1 t j).2.2.2.1, ()))], ())))]) = some (grps tg t) := fun hn => by
      rw [grps_new hb (h.le hlt) hn] at ih; exact ih
    cases j with
    | zero =>
      show ((some true).bind _) = _
      exact new (by simp [itemsAt])
    | succ j =>
      show (((t[j]?).map _).bind _) = _
      rw [at1_get (by omega : j < t.length)]
      simp only [Option.map_some, Option.bind_some]
      by_cases e : (at1 t j).2.2.1 = (at1 t (j + 1)).2.2.1
      · rw [show ((at1 t j).2.2.1 != (at1 t (j + 1)).2.2.1) = false by simp [e]]
        have hm : at1 t j ∈ t.take (j + 1) := by rw [take_snoc (by omega)]; simp
        obtain ⟨pre, a, g1, g2⟩ := grps_old (tg := tg) hb (h.le hlt) (itemsAt_ne hm e)
        rw [g1]
        simp only [List.getLast?_append, List.getLast?_singleton, Option.some_or, List.dropLast_concat]
        rw [g2] at ih; exact ih
      · rw [show ((at1 t j).2.2.1 != (at1 t (j + 1)).2.2.1) = true by simp [e]]
        exact new (h.new hlt e)

theorem tag_val {k : Int} (hk : k = 1 ∨ k = 2 ∨ k = 3 ∨ k = 4) : prog_tag k = some k := by
  rcases hk with e | e | e | e <;> subst e <;> rfl

theorem stepsG_val (p : Prg) (h : Sorted id p.2.2.2.2.1) (hk : p.1 = 1 ∨ p.1 = 2 ∨ p.1 = 3 ∨ p.1 = 4) (hl : p.2.2.2.2.1.length ≤ 100000) :
    prog_Steps.stepsG (((), ((), (p.2.2.2.2.1, ((p.2.2.2.2.1.length : Int), 0)))), (p, ())) = some (((), ()), (p, (grps p.1 p.2.2.2.2.1, ()))) := by
  unfold prog_Steps.stepsG
  simp only [decide_true, Bool.true_and, Nat.ble_eq_true_of_le hl, cond_true, tag_val hk, Option.bind_some]
  have := stepsGo_val h p.1 p.2.2.2.2.1.length 0 (by omega)
  simp only [List.drop_zero, List.take_zero] at this
  rw [show grps p.1 [] = [] from rfl] at this
  rw [this]; rfl

/-! ### The reference's way -/
theorem grp1_len (tg w : Int) (a : List Ln) : (grp1 tg w a).length ≤ 1 := by cases a <;> simp [grp1]
end
end Go.Proofs.Pure

/- What steps a program has; each may be. -/
namespace Go.Proofs.Pure
open Go.Proofs.D Go.Proofs.F

def oneS (tg w s q : Int) : Stp := (tg, (w, ([(s, (q, ()))], ())))
def owS (p : Prg) : List Stp := match p.2.2.2.2.2.1 with | [] => [] | a :: l => [((bif p.1 == 2 then 8 else 7), (0, (a :: l, ())))]
def sumQ (t : List Tk) : Int := (sumOf (t.map qtyOf)).1
def fillS (p : Prg) : List Stp := match p.2.2.2.2.1 with | [] => [] | _ :: _ => [oneS 1 p.2.2.2.2.2.2.2.2.1 p.2.2.2.2.2.2.1 (sumQ p.2.2.2.2.1), oneS 8 0 p.2.2.2.2.2.2.1 (sumQ p.2.2.2.2.1)]
def stepsP (p : Prg) : List Stp :=
  bif p.1 == 6 then [oneS 6 p.2.2.2.2.2.2.2.1 p.2.2.2.2.2.2.1 p.2.2.2.2.2.2.2.2.2.1, oneS 5 p.2.2.2.2.2.2.2.2.1 p.2.2.2.2.2.2.1 p.2.2.2.2.2.2.2.2.2.1]
  else bif p.1 == 5 then oneS 5 p.2.2.2.2.2.2.2.2.1 p.2.2.2.2.2.2.1 p.2.2.2.2.2.2.2.2.2.1 :: fillS p
  else grps p.1 p.2.2.2.2.1 ++ owS p
def stepsV (p : Prg) : List Stp := bif goodP 4 4 p then stepsP p else []

/-! ### What is known of a program that may be -/
structure Good4 (p : Prg) : Prop where
  kind : p.1 = 1 ∨ p.1 = 2 ∨ p.1 = 3 ∨ p.1 = 4
  sorted : Sorted p.2.1 p.2.2.2.2.1
  owes : linesB 4 p.2.2.2.2.2.1 = true
  some : p.2.2.2.2.1 ≠ [] ∨ p.2.2.2.2.2.1 ≠ []
  few : p.1 = 3 ∨ p.1 = 4 → p.2.2.2.2.2.1 = []
structure Good5 (p : Prg) : Prop where
  kind : p.1 = 5
  sku : 0 ≤ p.2.2.2.2.2.2.1 ∧ p.2.2.2.2.2.2.1 < 4
  ware : 0 ≤ p.2.2.2.2.2.2.2.2.1 ∧ p.2.2.2.2.2.2.2.2.1 < 4
  qty : 1 ≤ p.2.2.2.2.2.2.2.2.2.1
  fills : fillsB p = true
structure Good6 (p : Prg) : Prop where
  kind : p.1 = 6
  sku : 0 ≤ p.2.2.2.2.2.2.1 ∧ p.2.2.2.2.2.2.1 < 4
  ware : 0 ≤ p.2.2.2.2.2.2.2.2.1 ∧ p.2.2.2.2.2.2.2.2.1 < 4
  src : 0 ≤ p.2.2.2.2.2.2.2.1 ∧ p.2.2.2.2.2.2.2.1 < 4
  qty : 1 ≤ p.2.2.2.2.2.2.2.2.2.1

theorem want_first {l : List Ln} (h : linesB 4 l = true) (hw : ∀ x ∈ l, WfE kLine x) (hne : l ≠ []) : ∃ k : Nat, k < 4 ∧ 1 ≤ (wantOf l).getD k 0 := by
  have hlt := linesB_lt h
  have pos : ∀ x ∈ l, 0 ≤ x.1 ∧ x.1 < 4 := fun x hx => ⟨(wf_u8 (hw x hx).1).1, (hlt x hx).1⟩
  rcases linesB_shape h with e | ⟨a, e⟩ | ⟨a, b, e, h1⟩ | ⟨a, b, c, e, h1, h2⟩
  · exact absurd e hne
  · subst e
    have pa := pos a (by simp); have qa := hlt a (by simp)
    refine ⟨a.1.toNat, by omega, ?_⟩
    show 1 ≤ ((List.replicate 4 0).set a.1.toNat a.2.1).getD a.1.toNat 0
    rw [set_at _ _ _ _ (by simp) (by omega), if_pos rfl]; exact qa.2
  · subst e
    have pa := pos a (by simp); have pb := pos b (by simp); have qa := hlt a (by simp)
    refine ⟨a.1.toNat, by omega, ?_⟩
    show 1 ≤ (((List.replicate 4 0).set a.1.toNat a.2.1).set b.1.toNat b.2.1).getD a.1.toNat 0
    rw [set_at _ _ _ _ (by simp) (by omega), if_neg (by omega), set_at _ _ _ _ (by simp) (by omega), if_pos rfl]; exact qa.2
  · subst e
    have pa := pos a (by simp); have pb := pos b (by simp); have pc := pos c (by simp); have qa := hlt a (by simp)
    refine ⟨a.1.toNat, by omega, ?_⟩
    show 1 ≤ ((((List.replicate 4 0).set a.1.toNat a.2.1).set b.1.toNat b.2.1).set c.1.toNat c.2.1).getD a.1.toNat 0
    rw [set_at _ _ _ _ (by simp) (by omega), if_neg (by omega), set_at _ _ _ _ (by simp) (by omega), if_neg (by omega), set_at _ _ _ _ (by simp) (by omega), if_pos rfl]; exact qa.2

theorem len0 {α : Type} {l : List α} (h : ((l.length : Int) == 0) = true) : l = [] := by
  have : (l.length : Int) = 0 := by simpa using h
  exact List.eq_nil_of_length_eq_zero (by omega)
theorem lenpos {α : Type} {l : List α} (h : decide ((l.length : Int) > 0) = true) : l ≠ [] := by
  intro e; subst e; simp at h

theorem good_cases {p : Prg} (hf : Few p) (h : goodP 4 4 p = true) : Good4 p ∨ Good5 p ∨ Good6 p := by
  obtain ⟨k1, k2, k3⟩ := hf.k
  have hg : goodKind 4 4 p = true := by
    unfold goodP at h; simp only [Bool.and_eq_true] at h; exact h.2
  unfold goodKind at hg
  cases e1 : p.1 == 1 with
  | true =>
    rw [e1] at hg
    simp only [cond_true, Bool.and_eq_true] at hg
    obtain ⟨_, _, g3, g4, g5, g6, g7, g8⟩ := hg
    refine .inl ⟨.inl (by simpa using e1), sorted_of hf.w2 g5, g6, ?_, fun q => ?_⟩
    · by_cases ht : p.2.2.2.2.1 = []
      · refine .inr fun ho => ?_
        obtain ⟨k, hk, hq⟩ := want_first g4 hf.w1 (lenpos g3)
        rw [ht, ho] at g7
        unfold coveredB coverP coverK partsOf namedOf at g7
        simp only [List.flatMap_nil, List.append_nil, sumOf_nil, Bool.true_and, Bool.and_eq_true, Bool.not_eq_true', bne_eq_false_iff_eq] at g7
        obtain ⟨z0, z1, z2, z3⟩ := g7
        have : k = 0 ∨ k = 1 ∨ k = 2 ∨ k = 3 := by omega
        rcases this with e | e | e | e <;> subst e <;> omega
      · exact .inl ht
    · have : p.1 = 1 := by simpa using e1
      omega
  | false =>
  rw [e1] at hg
  cases e2 : p.1 == 2 with
  | true =>
    rw [e2] at hg
    simp only [cond_true, cond_false, Bool.and_eq_true] at hg
    obtain ⟨_, _, g3, g4, g5⟩ := hg
    refine .inl ⟨.inr (.inl (by simpa using e2)), sorted_of hf.w2 g3, g4, ?_, fun q => ?_⟩
    · by_cases ht : p.2.2.2.2.1 = []
      · refine .inr fun ho => ?_
        rw [ht, ho] at g5; simp at g5
      · exact .inl ht
    · have : p.1 = 2 := by simpa using e2
      omega
  | false =>
  rw [e2] at hg
  cases e3 : (p.1 == 3) || (p.1 == 4) with
  | true =>
    rw [e3] at hg
    simp only [cond_true, cond_false, Bool.and_eq_true] at hg
    obtain ⟨_, _, g3, g4, g5⟩ := hg
    have ho := len0 g5
    refine .inl ⟨?_, sorted_of hf.w2 g3, by rw [ho]; rfl, .inl (lenpos g4), fun _ => ho⟩
    simp only [Bool.or_eq_true, beq_iff_eq] at e3
    omega
  | false =>
  rw [e3] at hg
  cases e5 : p.1 == 5 with
  | true =>
    rw [e5] at hg
    unfold movedB at hg
    simp only [cond_true, cond_false, Bool.and_eq_true, decide_eq_true_eq] at hg
    obtain ⟨⟨_, _, _, g1, g2, g3⟩, _, g4⟩ := hg
    exact .inr (.inl ⟨by simpa using e5, ⟨k1.1, g1⟩, ⟨k3.1, g2⟩, by omega, g4⟩)
  | false =>
  rw [e5] at hg
  cases e6 : p.1 == 6 with
  | true =>
    rw [e6] at hg
    unfold movedB at hg
    simp only [cond_true, cond_false, Bool.and_eq_true, decide_eq_true_eq] at hg
    obtain ⟨⟨_, _, _, g1, g2, g3⟩, _, g4, _⟩ := hg
    exact .inr (.inr ⟨by simpa using e6, ⟨k1.1, g1⟩, ⟨k3.1, g2⟩, ⟨k2.1, g4⟩, by omega⟩)
  | false => rw [e6] at hg; simp at hg

/-! ### Each step may be -/
def FineS (s : Stp) : Prop := WfE kStep s ∧ goodS 4 4 s = true

theorem wf_mk8 {n : Int} (h1 : 0 ≤ n) (h2 : n < 256) : WfE (.int .u8) n := by
  show (Lit.int .u8 n).wf = true
  simp only [Lit.wf, Bool.and_eq_true, decide_eq_true_eq, show IntKind.u8.min = 0 by decide, show IntKind.u8.max = 255 by decide]; omega
theorem wf_mk64 {n : Int} (h1 : -9223372036854775808 ≤ n) (h2 : n < 9223372036854775808) : WfE (.int .i64) n := by
  show (Lit.int .i64 n).wf = true
  simp only [Lit.wf, Bool.and_eq_true, decide_eq_true_eq, show IntKind.i64.min = -9223372036854775808 by decide, show IntKind.i64.max = 9223372036854775807 by decide]; omega
theorem maxLen_ge {n : Nat} (h : n < 1000000) : n ≤ maxLen := by unfold maxLen; omega

theorem fineS44 : fineS 4 4 = true := by decide
theorem fine_mk {tg w : Int} {a : List Ln} (ht : 1 ≤ tg ∧ tg ≤ 8) (hw : 0 ≤ w ∧ w < 4) (h7 : 7 ≤ tg → w = 0) (hl : 1 ≤ a.length ∧ a.length ≤ 3) (ha : ∀ y ∈ a, WfE kLine y ∧ y.1 < 4 ∧ 1 ≤ y.2.1)
    (hr : ∀ i, i + 1 < a.length → (at0 a i).1 < (at0 a (i + 1)).1) : FineS (tg, (w, (a, ()))) := by
  refine ⟨⟨wf_mk8 (n := tg) (by omega) (by omega), wf_mk8 (n := w) (by omega) (by omega), ⟨maxLen_ge (n := a.length) (by omega), fun y hy => (ha y hy).1⟩, trivial⟩, ?_⟩
  unfold goodS
  simp only [fineS44, dec_t ht.1, dec_t ht.2, dec_t hl.1, dec_t hl.2, Bool.true_and, Bool.and_eq_true]
  refine ⟨allFrom_iff.2 fun j _ hj => ?_, ?_⟩
  · have hj : j < a.length := by omega
    have hm := ha (at0 a j) (List.mem_of_getElem? (at_get hj))
    unfold goodR risesB
    rw [dec_t hm.2.1, dec_t hm.2.2]
    cases j with
    | zero => rfl
    | succ j => rw [Nat.add_sub_cancel, dec_t (hr j hj)]; simp
  · by_cases q : 7 ≤ tg
    · rw [dec_t q]; simp [h7 q]
    · rw [dec_f q]; simp; omega
theorem fine_one {tg w s q : Int} (ht : 1 ≤ tg ∧ tg ≤ 8) (hw : 0 ≤ w ∧ w < 4) (h7 : 7 ≤ tg → w = 0) (hs : 0 ≤ s ∧ s < 4) (hq : 1 ≤ q ∧ q < 9223372036854775808) : FineS (oneS tg w s q) :=
  fine_mk ht hw h7 (by simp) (fun y hy => by
    rw [List.mem_singleton.1 hy]
    exact ⟨⟨wf_mk8 (n := s) (by omega) (by omega), wf_mk64 (n := q) (by omega) (by omega), trivial⟩, hs.2, hq.1⟩) (fun i hi => by simp at hi)

theorem itemsAt_range (w : Int) (t : List Tk) : ∀ j, j ≤ t.length → itemsAt w (t.take j) = ((List.range j).filter fun i => (at1 t i).2.2.1 == w).map fun i => lineOf (at1 t i)
  | 0, _ => by simp [itemsAt]
  | j + 1, h => by
    rw [take_snoc (by omega), itemsAt_snoc, itemsAt_range w t j (by omega), List.range_succ, List.filter_append, List.map_append]
    congr 1
    unfold itemG
    by_cases e : (at1 t j).2.2.1 = w
    · simp [e]
    · rw [show ((at1 t j).2.2.1 == w) = false by simp [e]]; simp [e]

theorem group_fine {id tg w : Int} {t : List Tk} (h : Sorted id t) (hwf : ∀ x ∈ t, WfE kTake x) (ht : 1 ≤ tg ∧ tg ≤ 4) (hw : 0 ≤ w ∧ w < 4) (hne : itemsAt w t ≠ []) : FineS (tg, (w, (itemsAt w t, ()))) := by
  have hr := itemsAt_range w t t.length (Nat.le_refl _)
  rw [List.take_length] at hr
  generalize hI : (List.range t.length).filter (fun i => (at1 t i).2.2.1 == w) = I at hr
  have hmem : ∀ i ∈ I, i < t.length ∧ (at1 t i).2.2.1 = w := fun i hi => by
    rw [← hI] at hi
    simpa using hi
  have hpw : I.Pairwise (· < ·) := by rw [← hI]; exact List.Pairwise.filter _ List.pairwise_lt_range
  have hget := List.pairwise_iff_getElem.1 hpw
  have hlen : I.length ≤ 3 := by
    refine Nat.le_of_not_lt fun hc => ?_
    have a1 := hget 0 1 (by omega) (by omega) (by omega)
    have a2 := hget 1 2 (by omega) (by omega) (by omega)
    have a3 := hget 2 3 (by omega) (by omega) (by omega)
    have m0 := hmem I[0] (List.getElem_mem _)
    have m3 := hmem I[3] (List.getElem_mem _)
    have h0 := h.apart (I[3] - 3) (by omega)
    rw [show I[3] - 3 + 3 = I[3] by omega] at h0
    apply h0
    by_cases e : I[0] = I[3] - 3
    · rw [← e, m0.2, m3.2]
    · have r1 := h.rise I[0] (I[3] - 3) (by omega) (by omega)
      have r2 := h.rise (I[3] - 3) I[3] (by omega) m3.1
      rw [m0.2] at r1; rw [m3.2] at r2 ⊢
      omega
  rw [hr] at hne ⊢
  have hpos : 1 ≤ I.length := by
    cases I with
    | nil => exact absurd rfl hne
    | cons _ _ => simp
  refine fine_mk (by omega) hw (by omega) (by simp; omega) (fun y hy => ?_) (fun i hi => ?_)
  · obtain ⟨i, hi, e⟩ := List.mem_map.1 hy
    subst e
    have m := hmem i hi
    have hb := h.base i m.1
    have hw2 := wfT hwf m.1
    refine ⟨⟨wf_mk8 hb.2.1.1 (by show (at1 t i).2.1 < 256; omega), wf_mk64 (by show -9223372036854775808 ≤ (at1 t i).2.2.2.1; omega) (by show (at1 t i).2.2.2.1 < _; omega), trivial⟩, hb.2.1.2, hb.2.2.2⟩
  · have hi' : i + 1 < I.length := by simpa using hi
    have e0 : at0 (I.map fun i => lineOf (at1 t i)) i = lineOf (at1 t I[i]) := by
      unfold at0; rw [List.getD_eq_getElem?_getD, List.getElem?_map, List.getElem?_eq_getElem (by omega)]; rfl
    have e1 : at0 (I.map fun i => lineOf (at1 t i)) (i + 1) = lineOf (at1 t I[i + 1]) := by
      unfold at0; rw [List.getD_eq_getElem?_getD, List.getElem?_map, List.getElem?_eq_getElem hi']; rfl
    rw [e0, e1]
    have m0 := hmem I[i] (List.getElem_mem _)
    have m1 := hmem I[i + 1] (List.getElem_mem _)
    have r := h.rise I[i] I[i + 1] (hget i (i + 1) (by omega) hi' (by omega)) m1.1
    show (at1 t I[i]).2.1 < (at1 t I[i + 1]).2.1
    rw [m0.2, m1.2] at r
    omega

theorem sumOf_true {l : List Int} (h : (sumOf l).2.1 = true) : (sumOf l).1 = total l ∧ total l < 9223372036854775808 := by
  unfold sumOf at h ⊢
  by_cases q : fitsI (total l) = true
  · rw [if_pos q]
    unfold fitsI at q
    simp only [Bool.and_eq_true, decide_eq_true_eq] at q
    exact ⟨rfl, q.2⟩
  · rw [if_neg q] at h; cases h
theorem total_pos : ∀ {l : List Int}, (∀ x ∈ l, 1 ≤ x) → (l.length : Int) ≤ total l
  | [], _ => by simp [total]
  | x :: l, h => by
    have := h x List.mem_cons_self
    have := total_pos fun y hy => h y (List.mem_cons_of_mem _ hy)
    simp only [total, List.length_cons]; omega

theorem fills_at {p : Prg} (h : fillsB p = true) : (∀ x ∈ p.2.2.2.2.1, x.2.1 = p.2.2.2.2.2.2.1 ∧ 1 ≤ x.2.2.2.1) ∧ sumQ p.2.2.2.2.1 = total (p.2.2.2.2.1.map qtyOf) ∧ total (p.2.2.2.2.1.map qtyOf) < 9223372036854775808 ∧ (p.2.2.2.2.1.length : Int) ≤ sumQ p.2.2.2.2.1 := by
  unfold fillsB at h
  simp only [Bool.and_eq_true, decide_eq_true_eq] at h
  obtain ⟨h1, _, h2, _⟩ := h
  have hq : ∀ x ∈ p.2.2.2.2.1, x.2.1 = p.2.2.2.2.2.2.1 ∧ 1 ≤ x.2.2.2.1 := fun x hx => by
    obtain ⟨i, hi, e⟩ := List.getElem_of_mem hx
    have := allFrom_at h1 hi
    have ea : at1 p.2.2.2.2.1 i = x := by unfold at1; rw [List.getD_eq_getElem?_getD, List.getElem?_eq_getElem hi, e]; rfl
    unfold fillR at this
    rw [ea] at this
    simp only [Bool.and_eq_true, Bool.not_eq_true', decide_eq_false_iff_not, bne_eq_false_iff_eq] at this
    exact ⟨this.2.2.1, by omega⟩
  obtain ⟨a, b⟩ := sumOf_true h2
  refine ⟨hq, a, b, ?_⟩
  have := total_pos (l := p.2.2.2.2.1.map qtyOf) fun x hx => by
    obtain ⟨y, hy, e⟩ := List.mem_map.1 hx
    subst e; exact (hq y hy).2
  rw [List.length_map] at this
  unfold sumQ; rw [a]; exact this

theorem grp1_mem {tg w : Int} {a : List Ln} {s : Stp} (h : s ∈ grp1 tg w a) : a ≠ [] ∧ s = (tg, (w, (a, ()))) := by
  cases a with
  | nil => cases h
  | cons x l => exact ⟨by simp, List.mem_singleton.1 h⟩

theorem owes_fine {p : Prg} (hf : Few p) (h : linesB 4 p.2.2.2.2.2.1 = true) : ∀ s ∈ owS p, FineS s := by
  intro s hs
  unfold owS at hs
  have hl := linesB_lt h
  have hw := hf.w3
  unfold linesB at h
  simp only [Bool.and_eq_true, decide_eq_true_eq] at h
  obtain ⟨h1, h2⟩ := h
  generalize p.2.2.2.2.2.1 = o at *
  cases o with
  | nil => cases hs
  | cons a l =>
    rw [List.mem_singleton.1 hs]
    refine fine_mk (by cases p.1 == 2 <;> simp) (by omega) (fun _ => rfl) ⟨by simp, by omega⟩ (fun y hy => ⟨hw y hy, (hl y hy).1, (hl y hy).2⟩) fun i hi => ?_
    have := allFrom_at h1 hi
    unfold lineR at this
    simp only [Bool.and_eq_true, Bool.or_eq_true, Bool.not_eq_true', decide_eq_false_iff_not, Nat.add_sub_cancel] at this
    rcases this.2.2 with q | q
    · cases q
    · omega

theorem stepsP_fine {p : Prg} (hf : Few p) (h : goodP 4 4 p = true) : ∀ s ∈ stepsP p, FineS s := by
  have hq := wf_i64 hf.wf.2.2.2.2.2.2.2.2.2.1
  intro s hs
  unfold stepsP at hs
  rcases good_cases hf h with g | g | g
  · rw [show (p.1 == 6) = false by have := g.kind; simp; omega, show (p.1 == 5) = false by have := g.kind; simp; omega] at hs
    simp only [cond_false] at hs
    rcases List.mem_append.1 hs with q | q
    · unfold grps at q
      simp only [List.mem_append] at q
      have ht : 1 ≤ p.1 ∧ p.1 ≤ 4 := by have := g.kind; omega
      rcases q with q | q | q | q <;> obtain ⟨hne, e⟩ := grp1_mem q <;> rw [e] <;> exact group_fine g.sorted hf.w2 ht (by omega) hne
    · exact owes_fine hf g.owes s q
  · rw [show (p.1 == 6) = false by have := g.kind; simp; omega, show (p.1 == 5) = true by have := g.kind; simp [this]] at hs
    simp only [cond_false, cond_true] at hs
    obtain ⟨f1, f2, f3, f4⟩ := fills_at g.fills
    rcases List.mem_cons.1 hs with e | e
    · rw [e]; exact fine_one (by omega) g.ware (by omega) g.sku ⟨g.qty, hq.2⟩
    · unfold fillS at e
      cases ht : p.2.2.2.2.1 with
      | nil => rw [ht] at e; cases e
      | cons a l =>
        rw [ht] at e
        rw [ht] at f4
        rw [ht] at f2 f3
        have f4 : 1 ≤ sumQ (a :: l) := by simp at f4; omega
        rcases List.mem_cons.1 e with e | e
        · rw [e]; exact fine_one (by omega) g.ware (by omega) g.sku ⟨f4, by omega⟩
        · rw [List.mem_singleton.1 e]; exact fine_one (by omega) (by omega) (fun _ => rfl) g.sku ⟨f4, by omega⟩
  · rw [show (p.1 == 6) = true by have := g.kind; simp [this]] at hs
    simp only [cond_true] at hs
    rcases List.mem_cons.1 hs with e | e
    · rw [e]; exact fine_one (by omega) g.src (by omega) g.sku ⟨g.qty, hq.2⟩
    · rw [List.mem_singleton.1 e]; exact fine_one (by omega) g.ware (by omega) g.sku ⟨g.qty, hq.2⟩

theorem owS_len (p : Prg) : (owS p).length ≤ 1 := by unfold owS; split <;> simp
theorem grps_len (tg : Int) (t : List Tk) : (grps tg t).length ≤ 4 := by
  unfold grps
  have a := grp1_len tg 0 (itemsAt 0 t); have b := grp1_len tg 1 (itemsAt 1 t); have c := grp1_len tg 2 (itemsAt 2 t); have d := grp1_len tg 3 (itemsAt 3 t)
  simp only [List.length_append]; omega
theorem stepsP_len {p : Prg} (hf : Few p) (h : goodP 4 4 p = true) : 1 ≤ (stepsP p).length ∧ (stepsP p).length ≤ 5 := by
  unfold stepsP
  rcases good_cases hf h with g | g | g
  · rw [show (p.1 == 6) = false by have := g.kind; simp; omega, show (p.1 == 5) = false by have := g.kind; simp; omega]
    simp only [cond_false]
    have a := owS_len p; have b := grps_len p.1 p.2.2.2.2.1
    rw [List.length_append]
    refine ⟨?_, by omega⟩
    rcases g.some with q | q
    · cases ht : p.2.2.2.2.1 with
      | nil => exact absurd ht q
      | cons x l =>
        have hx : x ∈ p.2.2.2.2.1 := by rw [ht]; simp
        have hb : 0 ≤ x.2.2.1 ∧ x.2.2.1 < 4 := by
          have := (g.sorted.base 0 (by rw [ht]; simp)).2.2.1
          have e : at1 p.2.2.2.2.1 0 = x := by rw [ht]; rfl
          rw [e] at this; exact this
        have hne := fun w (e : x.2.2.1 = w) => itemsAt_ne hx e
        rw [← ht]
        unfold grps
        simp only [List.length_append]
        rcases four hb with e | e | e | e
        · rw [grp1_ne (hne 0 e)]; simp; omega
        · rw [grp1_ne (hne 1 e)]; simp; omega
        · rw [grp1_ne (hne 2 e)]; simp; omega
        · rw [grp1_ne (hne 3 e)]; simp; omega
    · have : (owS p).length = 1 := by
        unfold owS
        split
        · rename_i e; exact absurd e q
        · rfl
      omega
  · rw [show (p.1 == 6) = false by have := g.kind; simp; omega, show (p.1 == 5) = true by have := g.kind; simp [this]]
    simp only [cond_false, cond_true, List.length_cons]
    unfold fillS
    split <;> simp
  · rw [show (p.1 == 6) = true by have := g.kind; simp [this]]
    simp
end Go.Proofs.Pure

/- What the program and the reference say of a program's steps. -/
namespace Go.Proofs.Pure
open Go.Proofs.D Go.Proofs.F

theorem walk_through {α X : Type} (d : X) : ∀ (l : List α) (i : Nat), walkL (X := X) (fun _ (_ : α) (_ : Unit) => .inl ()) (fun _ => d) i l () = d
  | [], _ => rfl
  | _ :: l, i => walk_through d l (i + 1)

theorem steps_loop (out : List Stp) (hl : out.length < 1000) (h : ∀ s ∈ out, FineS s) : iterL prog_Steps.l1 loopN (((), ((out.length : Int), 0)), (out, ())) = some (.inl ((), (out, ()))) := by
  have := loop_walk (step := prog_Steps.l1) out (fun i (_ : Unit) => (((), ((out.length : Int), (i : Int))), (out, ()))) (fun _ _ _ => .inl ()) (fun _ => .inl ((), (out, ()))) (fun _ _ => True) () (by omega) trivial (fun i y acc hx _ => by
    have hi := get_lt hx
    obtain ⟨h1, h2⟩ := h y (get_mem hx)
    refine ⟨?_, fun _ _ => trivial⟩
    unfold prog_Steps.l1
    have hk : 3 ≥ y.2.2.1.length := by
      unfold goodS at h2
      simp only [Bool.and_eq_true, decide_eq_true_eq] at h2
      exact h2.1.1.2
    simp only [dec_t (show (i : Int) < (out.length : Int) by omega), dec_t (show (0 : Int) ≤ (i : Int) by omega), Bool.and_true, cond_true]
    rw [chk_true rfl, nthK_get hx, stepGood_val 4 4 y h1 (by omega), h2]
    simp only [Option.bind_some, Bool.not_true, cond_false]
    rw [succ_i64 (by omega)]) (fun acc _ => by
    unfold prog_Steps.l1
    simp only [dec_f (show ¬ (out.length : Int) < (out.length : Int) by omega), cond_false])
  rw [show (((0 : Nat) : Int)) = 0 from rfl] at this
  rw [this, walk_through]

theorem clone_lines (l : List Ln) (h : l.length < 1000) : slices_Clone_api_Line_api_Line l = some ((), (l, ())) := by
  unfold slices_Clone_api_Line_api_Line
  rw [room_ok (by omega)]

theorem steps_val (p : Prg) (hf : Few p) : prog_Steps p = some (stepsV p) := by
  have l1 := hf.lines; have l2 := hf.takes; have l3 := hf.owes
  unfold prog_Steps
  rw [progGood_val 4 4 p hf, Option.bind_some]
  unfold stepsV
  cases hg : goodP 4 4 p with
  | false => rfl
  | true =>
    simp only [Bool.not_true, cond_false, cond_true]
    have hfine := stepsP_fine hf hg
    have hlen := stepsP_len hf hg
    unfold stepsP at hfine hlen ⊢
    rcases good_cases hf hg with g | g | g
    · rw [show (p.1 == 6) = false by have := g.kind; simp; omega, show (p.1 == 5) = false by have := g.kind; simp; omega] at hfine hlen ⊢
      simp only [cond_false] at hfine hlen ⊢
      rw [stepsG_val p g.sorted g.kind (by omega), Option.bind_some]
      simp only []
      have hown : (bif decide ((p.2.2.2.2.2.1.length : Int) > 0) then (slices_Clone_api_Line_api_Line p.2.2.2.2.2.1).bind fun r11 => bif (p.1 : Int) == 2 then room ((grps p.1 p.2.2.2.2.1).length + [((8, (0, (r11.2.1, ()))) : Stp)].length) (some (((), (grps p.1 p.2.2.2.2.1 ++ [((8, (0, (r11.2.1, ()))) : Stp)], ())))) else room ((grps p.1 p.2.2.2.2.1).length + [((7, (0, (r11.2.1, ()))) : Stp)].length) (some (((), (grps p.1 p.2.2.2.2.1 ++ [((7, (0, (r11.2.1, ()))) : Stp)], ())))) else some (((), (grps p.1 p.2.2.2.2.1, ()))) : Option (Unit × List Stp × Unit)) =
          some ((), (grps p.1 p.2.2.2.2.1 ++ owS p, ())) := by
        have hgl := grps_len p.1 p.2.2.2.2.1
        unfold owS
        cases ho : p.2.2.2.2.2.1 with
        | nil => rw [dec_f (by simp)]; simp
        | cons a l =>
          have hl3 : (a :: l).length < 1000 := by rw [← ho]; omega
          rw [dec_t (by simp), cond_true, clone_lines _ hl3, Option.bind_some]
          cases p.1 == 2 with
          | true => simp only [cond_true]; rw [room_ok (by simp; omega)]
          | false => simp only [cond_false]; rw [room_ok (by simp; omega)]
      refine (congrArg (fun o => Option.bind o _) hown).trans ?_
      simp only [Option.bind_some]
      rw [steps_loop _ (by omega) hfine, Option.bind_some]
    · rw [show (p.1 == 6) = false by have := g.kind; simp; omega, show (p.1 == 5) = true by have := g.kind; simp [this]]
      simp only [cond_false, cond_true]
      have h5 : prog_one 5 p.2.2.2.2.2.2.2.2.1 p.2.2.2.2.2.2.1 p.2.2.2.2.2.2.2.2.2.1 = some (oneS 5 p.2.2.2.2.2.2.2.2.1 p.2.2.2.2.2.2.1 p.2.2.2.2.2.2.2.2.2.1) := rfl
      obtain ⟨f1, f2, f3, f4⟩ := fills_at g.fills
      rw [h5, Option.bind_some, together_val _ (by omega) hf.w2, Option.bind_some]
      show (bif decide (sumQ p.2.2.2.2.1 > 0) then _ else _) = _
      unfold fillS
      cases ht : p.2.2.2.2.1 with
      | nil => rfl
      | cons a l =>
        rw [ht] at f4
        have f4 : 1 ≤ sumQ (a :: l) := by simp at f4; omega
        rw [dec_t (by omega)]
        rfl
    · rw [show (p.1 == 6) = true by have := g.kind; simp [this]]
      rfl

end Go.Proofs.Pure

/- Layer 13's law: its example, how few things a program has, which orders it is about. -/
namespace Go.Proofs.Pure
open Go.Proofs.D Go.Proofs.F

theorem works13 : pledgelaw13_works = some true := by kernel_rfl

theorem gather_map {α β : Type} (f : α → β) (l : List α) : l.flatMap (fun x => [f x]) = l.map f := by
  induction l with
  | nil => rfl
  | cons x l ih => rw [List.flatMap_cons, ih]; rfl

theorem few13_cases (x : Prg) (h : WfE kProgram x) : pledgelaw13_Few x = some 0 ∨ (pledgelaw13_Few x = some 1 ∧ Few x ∧ x.2.2.2.1.length ≤ 20 ∧ x.2.2.2.2.1.length ≤ 30 ∧ x.2.2.2.2.2.1.length ≤ 20) := by
  unfold pledgelaw13_Few pledgelaw13_isFew
  by_cases h1 : (x.2.2.2.1.length : Int) ≤ 20
  · by_cases h2 : (x.2.2.2.2.1.length : Int) ≤ 30
    · by_cases h3 : (x.2.2.2.2.2.1.length : Int) ≤ 20
      · rw [dec_t h1, dec_t h2, dec_t h3]
        exact .inr ⟨rfl, ⟨h, by omega, by omega, by omega⟩, by omega, by omega, by omega⟩
      · rw [dec_t h1, dec_t h2, dec_f h3]; exact .inl rfl
    · rw [dec_t h1, dec_f h2]; exact .inl rfl
  · rw [dec_f h1]; exact .inl rfl
end Go.Proofs.Pure

/- What a step does: additions (in the words of layer 11). -/
namespace Go.Proofs.Pure
open Go.Proofs.D Go.Proofs.F

def negI (n : Int) : Int := IntKind.i64.wrap (0 - n)
theorem negI_val {d : Int} (h1 : -9223372036854775808 < d) (h2 : d < 9223372036854775808) : negI d = -d := by
  unfold negI; rw [wrap_i64 (by omega) (by omega)]; omega
def addO (k s w d : Int) : OpE := ((k, (s, (w, ()))), (d, ()))
def opsOne (tg w : Int) (x : Ln) : List OpE :=
  bif tg == 1 then [addO 1 x.1 w (negI x.2.1), addO 2 x.1 w x.2.1] else bif tg == 2 then [addO 2 x.1 w (negI x.2.1), addO 1 x.1 w x.2.1]
  else bif tg == 3 then [addO 2 x.1 w (negI x.2.1), addO 3 x.1 0 x.2.1] else bif tg == 4 then [addO 3 x.1 0 (negI x.2.1), addO 1 x.1 w x.2.1]
  else bif tg == 5 then [addO 1 x.1 w x.2.1] else bif tg == 6 then [addO 1 x.1 w (negI x.2.1)] else bif tg == 7 then [addO 4 x.1 0 x.2.1]
  else bif tg == 8 then [addO 4 x.1 0 (negI x.2.1)] else []
def opsItem (s : Stp) (x : Ln) : List OpE := bif decide (x.2.1 ≥ 1) then opsOne s.1 s.2.1 x else []
def opsOf (s : Stp) : List OpE := s.2.2.1.flatMap (opsItem s)

theorem opsOne_len (tg w : Int) (x : Ln) : (opsOne tg w x).length ≤ 2 := by
  unfold opsOne
  cases tg == 1 <;> cases tg == 2 <;> cases tg == 3 <;> cases tg == 4 <;> cases tg == 5 <;> cases tg == 6 <;> cases tg == 7 <;> cases tg == 8 <;> simp
theorem opsItem_len (s : Stp) (x : Ln) : (opsItem s x).length ≤ 2 := by
  unfold opsItem
  cases decide (x.2.1 ≥ 1) with
  | true => exact opsOne_len _ _ _
  | false => simp

theorem add_val (k d : Int) (x : Ln) (s : Stp) (acc : List OpE) (h : acc.length < 1000000) :
    step_Ops_1 k d () () () x s () acc = some ((), (x, (s, ((), ((), (acc ++ [addO k x.1 (bif (k == 1) || (k == 2) then s.2.1 else 0) d], ())))))) := by
  unfold step_Ops_1
  cases k == 1 with
  | true => simp only [cond_true, Option.bind_some, Bool.true_or]; rw [room_ok (by simp; omega)]; rfl
  | false =>
    cases k == 2 with
    | true => simp only [cond_true, cond_false, Option.bind_some, Bool.or_true]; rw [room_ok (by simp; omega)]; rfl
    | false => simp only [cond_false, Option.bind_some, Bool.or_false]; rw [room_ok (by simp; omega)]; rfl

theorem ops_val (s : Stp) (hl : s.2.2.1.length < 1000) : step_Ops s = some (opsOf s) := by
  unfold step_Ops opsOf
  generalize hL : s.2.2.1 = l at *
  have := loop_walk (step := step_Ops.l1) l (fun i (acc : List OpE) => (((), ((), (l, ((l.length : Int), (i : Int))))), (s, ((), (acc, ()))))) (fun _ y acc => .inl (acc ++ opsItem s y)) (fun acc => ((), ((), (acc, ())))) (fun i acc => acc.length ≤ 2 * i) [] (by omega) (Nat.le_refl _) (fun i y acc hx hi => by
    have hi2 := get_lt hx
    have ho := opsItem_len s y
    refine ⟨?_, fun _ h => by cases h; simp only [List.length_append]; omega⟩
    unfold step_Ops.l1
    simp only [dec_t (show (i : Int) < (l.length : Int) by omega), cond_true]
    rw [nthK_get hx]
    have a1 : ∀ d, step_Ops_1 1 d () () () y s () acc = some ((), (y, (s, ((), ((), (acc ++ [addO 1 y.1 s.2.1 d], ())))))) := fun d => add_val 1 d y s acc (by omega)
    have b1 : ∀ z d, step_Ops_1 1 d () () () y s () (acc ++ [z]) = some ((), (y, (s, ((), ((), (acc ++ [z] ++ [addO 1 y.1 s.2.1 d], ())))))) := fun z d => add_val 1 d y s (acc ++ [z]) (by simp; omega)
    have a2 : ∀ d, step_Ops_1 2 d () () () y s () acc = some ((), (y, (s, ((), ((), (acc ++ [addO 2 y.1 s.2.1 d], ())))))) := fun d => add_val 2 d y s acc (by omega)
    have b2 : ∀ z d, step_Ops_1 2 d () () () y s () (acc ++ [z]) = some ((), (y, (s, ((), ((), (acc ++ [z] ++ [addO 2 y.1 s.2.1 d], ())))))) := fun z d => add_val 2 d y s (acc ++ [z]) (by simp; omega)
    have a3 : ∀ d, step_Ops_1 3 d () () () y s () acc = some ((), (y, (s, ((), ((), (acc ++ [addO 3 y.1 0 d], ())))))) := fun d => add_val 3 d y s acc (by omega)
    have b3 : ∀ z d, step_Ops_1 3 d () () () y s () (acc ++ [z]) = some ((), (y, (s, ((), ((), (acc ++ [z] ++ [addO 3 y.1 0 d], ())))))) := fun z d => add_val 3 d y s (acc ++ [z]) (by simp; omega)
    have a4 : ∀ d, step_Ops_1 4 d () () () y s () acc = some ((), (y, (s, ((), ((), (acc ++ [addO 4 y.1 0 d], ())))))) := fun d => add_val 4 d y s acc (by omega)
    have s1 := succ_i64 (n := i) (by omega)
    unfold opsItem
    by_cases c : y.2.1 < 1
    · rw [dec_t c, dec_f (show ¬ y.2.1 ≥ 1 by omega)]
      simp only [cond_true, cond_false, List.append_nil, s1]
    · rw [dec_f c, dec_t (show y.2.1 ≥ 1 by omega)]
      simp only [cond_true, cond_false, a1, a2, a3, a4, b1, b2, b3, Option.bind_some, s1]
      unfold opsOne negI
      by_cases e1 : s.1 = 1
      · simp only [e1, show ((1 : Int) == 1) = true from rfl, cond_true]; simp
      by_cases e3 : s.1 = 3
      · simp only [e3, show ((3 : Int) == 1) = false from rfl, show ((3 : Int) == 2) = false from rfl, show ((3 : Int) == 3) = true from rfl, cond_true, cond_false]; simp
      by_cases e2 : s.1 = 2
      · simp only [e2, show ((2 : Int) == 1) = false from rfl, show ((2 : Int) == 2) = true from rfl, show ((2 : Int) == 3) = false from rfl, cond_true, cond_false]; simp
      rw [show (s.1 == 1) = false by simp [e1], show (s.1 == 2) = false by simp [e2], show (s.1 == 3) = false by simp [e3]]
      simp only [cond_false]
      by_cases e5 : s.1 = 5
      · simp only [e5, show ((5 : Int) == 4) = false from rfl, show ((5 : Int) == 5) = true from rfl, cond_true, cond_false]
      by_cases e4 : s.1 = 4
      · simp only [e4, show ((4 : Int) == 4) = true from rfl, show ((4 : Int) == 5) = false from rfl, cond_true, cond_false]; simp
      rw [show (s.1 == 4) = false by simp [e4], show (s.1 == 5) = false by simp [e5]]
      simp only [cond_false]
      by_cases e6 : s.1 = 6
      · simp only [e6, show ((6 : Int) == 6) = true from rfl, cond_true]
      by_cases e7 : s.1 = 7
      · simp only [e7, show ((7 : Int) == 6) = false from rfl, show ((7 : Int) == 7) = true from rfl, cond_true, cond_false]
      by_cases e8 : s.1 = 8
      · simp only [e8, show ((8 : Int) == 6) = false from rfl, show ((8 : Int) == 7) = false from rfl, show ((8 : Int) == 8) = true from rfl, cond_true, cond_false]
      rw [show (s.1 == 6) = false by simp [e6], show (s.1 == 7) = false by simp [e7], show (s.1 == 8) = false by simp [e8]]
      simp) (fun acc _ => by
    unfold step_Ops.l1
    simp only [dec_f (show ¬ (l.length : Int) < (l.length : Int) by omega), cond_false])
  rw [show (((0 : Nat) : Int)) = 0 from rfl] at this
  rw [this, walk_gather, List.nil_append]; rfl
theorem opsOf_len (s : Stp) : (opsOf s).length ≤ 2 * s.2.2.1.length := by
  unfold opsOf
  generalize s.2.2.1 = l
  induction l with
  | nil => simp
  | cons x l ih =>
    have := opsItem_len s x
    simp only [List.flatMap_cons, List.length_append, List.length_cons]; omega

theorem opsOne_amt {tg w : Int} {y : Ln} {z : OpE} (hz : z ∈ opsOne tg w y) : z.2.1 = negI y.2.1 ∨ z.2.1 = y.2.1 := by
  unfold opsOne addO at hz
  revert hz
  cases tg == 1 <;> cases tg == 2 <;> cases tg == 3 <;> cases tg == 4 <;> cases tg == 5 <;> cases tg == 6 <;> cases tg == 7 <;> cases tg == 8 <;> simp only [cond_true, cond_false, List.mem_cons, List.not_mem_nil, or_false] <;> intro hz <;>
    first | exact hz.elim | (rcases hz with rfl | rfl <;> simp) | (subst hz; simp)
theorem opsOf_wf (s : Stp) (hw : ∀ x ∈ s.2.2.1, -9223372036854775808 ≤ x.2.1 ∧ x.2.1 < 9223372036854775808) : ∀ x ∈ opsOf s, -9223372036854775808 < x.2.1 ∧ x.2.1 < 9223372036854775808 := by
  intro x hx
  unfold opsOf at hx
  obtain ⟨y, hy, hx⟩ := List.mem_flatMap.1 hx
  have hq := hw y hy
  unfold opsItem at hx
  by_cases c : y.2.1 ≥ 1
  · rw [dec_t c, cond_true] at hx
    have hn : negI y.2.1 = -y.2.1 := negI_val (by omega) (by omega)
    rcases opsOne_amt hx with e | e <;> rw [e] <;> omega
  · rw [dec_f c, cond_false] at hx; cases hx
end Go.Proofs.Pure

/- What a program's steps move, article by article. -/
namespace Go.Proofs.Pure
open Go.Proofs.D Go.Proofs.F

def k0 : KE := (0, (0, (0, ())))
def mvB (k : Int) (x : OpE) : Bool := (x.1.2.1 == k) && (x.1.1 != 4)
def mvE (k : Int) (x : OpE) : Int := bif mvB k x then x.2.1 else 0
def mv (k : Int) (l : List OpE) : Int := total (l.map (mvE k))
def allG (k : Int) (x : OpE) : List OpE := bif mvB k x then [(k0, (x.2.1, ()))] else []
def allE (k : Int) (l : List OpE) : List OpE := l.flatMap (allG k)

theorem mv_append (k : Int) (a b : List OpE) : mv k (a ++ b) = mv k a + mv k b := by
  unfold mv; rw [List.map_append, total_append]
theorem allE_len (k : Int) (l : List OpE) : (allE k l).length ≤ l.length := by
  unfold allE
  induction l with
  | nil => simp
  | cons x l ih =>
    simp only [List.flatMap_cons, List.length_append, List.length_cons]
    have : (allG k x).length ≤ 1 := by unfold allG; cases mvB k x <;> simp
    omega
theorem allE_key {k : Int} {l : List OpE} : ∀ x ∈ allE k l, x.1 = k0 := by
  intro x hx
  obtain ⟨y, _, h⟩ := List.mem_flatMap.1 hx
  unfold allG at h
  cases q : mvB k y with
  | true => rw [q] at h; rw [List.mem_singleton.1 h]
  | false => rw [q] at h; cases h
theorem allE_wf {k : Int} {l : List OpE} (hw : ∀ x ∈ l, -9223372036854775808 ≤ x.2.1 ∧ x.2.1 < 9223372036854775808) : ∀ x ∈ allE k l, -9223372036854775808 ≤ x.2.1 ∧ x.2.1 < 9223372036854775808 := by
  intro x hx
  obtain ⟨y, hy, h⟩ := List.mem_flatMap.1 hx
  unfold allG at h
  cases q : mvB k y with
  | true => rw [q] at h; rw [List.mem_singleton.1 h]; exact hw y hy
  | false => rw [q] at h; cases h
theorem S_allE (k : Int) : ∀ l : List OpE, S (allE k l) k0 = mv k l
  | [] => rfl
  | x :: l => by
    have e : allE k (x :: l) = allG k x ++ allE k l := rfl
    have e2 : mv k (x :: l) = mvE k x + mv k l := rfl
    rw [e, e2, S_append, S_allE k l]
    unfold allG mvE
    cases mvB k x with
    | true => simp only [cond_true]; rw [S_cons, if_pos rfl]; show x.2.1 + S [] k0 + _ = _; rw [show S [] k0 = 0 from rfl]; omega
    | false => rfl

/-- What they come to. -/
theorem net_one {l : List OpE} (hk : ∀ x ∈ l, x.1 = k0) (hw : ∀ x ∈ l, -9223372036854775808 ≤ x.2.1 ∧ x.2.1 < 9223372036854775808) (hl : l.length ≤ 1000) (h1 : -9223372036854775808 ≤ S l k0) (h2 : S l k0 < 9223372036854775808) :
    op_Net l = some (if S l k0 = 0 then [] else [(k0, (S l k0, ()))], (true, ())) := by
  have hf : fitsI (S l k0) = true := by unfold fitsI; rw [dec_t h1, dec_t h2]; rfl
  cases l with
  | nil => rw [net_val hw hl (ks := []) ⟨List.Pairwise.nil, fun k => by simp⟩]; rfl
  | cons x l =>
    have hx := hk x List.mem_cons_self
    rw [net_val hw hl (ks := [k0]) ⟨List.pairwise_singleton _ _, fun k => by
      simp only [List.mem_singleton]
      constructor
      · intro e; subst e; exact ⟨x, List.mem_cons_self, hx⟩
      · rintro ⟨y, hy, e⟩; rw [← e, hk y hy]⟩]
    unfold netV
    rw [if_pos (by simp only [List.all_cons, List.all_nil, Bool.and_true]; exact hf)]
    by_cases q : S (x :: l) k0 = 0
    · rw [if_pos q, List.filterMap_cons_none (by rw [if_pos q])]; rfl
    · rw [if_neg q, List.filterMap_cons_some (by rw [if_neg q])]; rfl

/-! ### Step by step -/
def mvQ (k tg : Int) (x : Ln) : Int := if x.1 = k then (if tg = 5 then x.2.1 else if tg = 6 then -x.2.1 else 0) else 0
theorem mv_one (k tg w : Int) (x : Ln) (h : 1 ≤ tg ∧ tg ≤ 8) (hq : 1 ≤ x.2.1 ∧ x.2.1 < 9223372036854775808) : mv k (opsOne tg w x) = mvQ k tg x := by
  have hn : negI x.2.1 = -x.2.1 := negI_val (by omega) (by omega)
  have ht : tg = 1 ∨ tg = 2 ∨ tg = 3 ∨ tg = 4 ∨ tg = 5 ∨ tg = 6 ∨ tg = 7 ∨ tg = 8 := by omega
  unfold mvQ
  by_cases e : x.1 = k
  · have eb : (x.1 == k) = true := by simp [e]
    rw [if_pos e]
    rcases ht with e | e | e | e | e | e | e | e <;> subst e <;>
      simp [opsOne, addO, mv, mvE, mvB, total, eb, hn] <;> omega
  · have eb : (x.1 == k) = false := by simp [e]
    rw [if_neg e]
    rcases ht with e | e | e | e | e | e | e | e <;> subst e <;>
      simp [opsOne, addO, mv, mvE, mvB, total, eb, hn]
theorem fine_items {s : Stp} (h : FineS s) : ∀ x ∈ s.2.2.1, 1 ≤ x.2.1 ∧ x.2.1 < 9223372036854775808 := by
  intro x hx
  obtain ⟨hw, hg⟩ := h
  have h1 := wf_i64 (hw.2.2.1.2 x hx).2.1
  refine ⟨?_, h1.2⟩
  unfold goodS at hg
  simp only [Bool.and_eq_true] at hg
  obtain ⟨i, hi, e⟩ := List.getElem_of_mem hx
  have := allFrom_at hg.1.2 hi
  unfold goodR at this
  simp only [Bool.and_eq_true, decide_eq_true_eq] at this
  have ea : at0 s.2.2.1 i = x := by unfold at0; rw [List.getD_eq_getElem?_getD, List.getElem?_eq_getElem hi, e]; rfl
  rw [ea] at this; exact this.1.2
theorem fine_tag {s : Stp} (h : FineS s) : 1 ≤ s.1 ∧ s.1 ≤ 8 := by
  have hg := h.2
  unfold goodS at hg
  simp only [Bool.and_eq_true, decide_eq_true_eq] at hg
  exact ⟨hg.1.1.1.1.1.2, hg.1.1.1.1.2⟩
theorem mv_step (k : Int) {s : Stp} (h : FineS s) : mv k (opsOf s) = total (s.2.2.1.map (mvQ k s.1)) := by
  have ht := fine_tag h
  have hq := fine_items h
  unfold opsOf
  generalize s.2.2.1 = l at *
  induction l with
  | nil => rfl
  | cons x l ih =>
    have hx := hq x List.mem_cons_self
    have e : opsItem s x = opsOne s.1 s.2.1 x := by unfold opsItem; rw [dec_t hx.1]; rfl
    rw [List.flatMap_cons, mv_append, ih fun y hy => hq y (List.mem_cons_of_mem _ hy), e, mv_one k _ _ _ ht hx]; rfl
theorem total_zero {α : Type} {l : List α} {f : α → Int} (h : ∀ x ∈ l, f x = 0) : total (l.map f) = 0 := by
  induction l with
  | nil => rfl
  | cons x l ih => show f x + total (l.map f) = 0; rw [h x List.mem_cons_self, ih fun y hy => h y (List.mem_cons_of_mem _ hy)]; rfl
theorem mv_still (k : Int) {s : Stp} (h : FineS s) (h5 : s.1 ≠ 5) (h6 : s.1 ≠ 6) : mv k (opsOf s) = 0 := by
  rw [mv_step k h]
  refine total_zero fun x _ => ?_
  show (if x.1 = k then (if s.1 = 5 then x.2.1 else if s.1 = 6 then -x.2.1 else 0) else 0) = 0
  rw [if_neg h5, if_neg h6]
  split <;> rfl
theorem mv_oneS (k tg w s q : Int) (h : FineS (oneS tg w s q)) : mv k (opsOf (oneS tg w s q)) = if s = k then (if tg = 5 then q else if tg = 6 then -q else 0) else 0 := by
  rw [mv_step k h]
  show mvQ k tg (s, (q, ())) + 0 = _
  rw [Int.add_zero]; rfl

def opsAll (l : List Stp) : List OpE := l.flatMap opsOf
theorem mv_all_still (k : Int) : ∀ {l : List Stp}, (∀ s ∈ l, FineS s) → (∀ s ∈ l, s.1 ≠ 5 ∧ s.1 ≠ 6) → mv k (opsAll l) = 0
  | [], _, _ => rfl
  | s :: l, h, h2 => by
    have e : opsAll (s :: l) = opsOf s ++ opsAll l := rfl
    rw [e, mv_append, mv_still k (h s List.mem_cons_self) (h2 s List.mem_cons_self).1 (h2 s List.mem_cons_self).2, mv_all_still k (fun x hx => h x (List.mem_cons_of_mem _ hx)) fun x hx => h2 x (List.mem_cons_of_mem _ hx)]; rfl
theorem opsAll_len : ∀ {l : List Stp}, (∀ s ∈ l, FineS s) → (opsAll l).length ≤ 6 * l.length
  | [], _ => by simp [opsAll]
  | s :: l, h => by
    have e : opsAll (s :: l) = opsOf s ++ opsAll l := rfl
    have ih := opsAll_len fun x hx => h x (List.mem_cons_of_mem _ hx)
    have h1 := opsOf_len s
    have h2 : s.2.2.1.length ≤ 3 := by
      have := (h s List.mem_cons_self).2
      unfold goodS at this
      simp only [Bool.and_eq_true, decide_eq_true_eq] at this
      exact this.1.1.2
    rw [e, List.length_append, List.length_cons]; omega
theorem opsAll_wf {l : List Stp} (h : ∀ s ∈ l, FineS s) : ∀ x ∈ opsAll l, -9223372036854775808 ≤ x.2.1 ∧ x.2.1 < 9223372036854775808 := by
  intro x hx
  obtain ⟨s, hs, hx⟩ := List.mem_flatMap.1 hx
  have := opsOf_wf s (fun y hy => by have := fine_items (h s hs) y hy; omega) x hx
  omega

/-- What a program's steps move: what is restocked. -/
def wantV (p : Prg) (k : Int) : Int := if p.1 = 5 ∧ p.2.2.2.2.2.2.1 = k ∧ goodP 4 4 p = true then p.2.2.2.2.2.2.2.2.2.1 else 0
theorem moves (p : Prg) (hf : Few p) (k : Int) : mv k (opsAll (stepsV p)) = wantV p k := by
  unfold wantV stepsV
  cases hg : goodP 4 4 p with
  | false => simp only [cond_false, Bool.false_eq_true, and_false, if_false]; rfl
  | true =>
    have hfine := stepsP_fine hf hg
    simp only [cond_true, and_true]
    rcases good_cases hf hg with g | g | g
    · rw [if_neg (by have := g.kind; omega)]
      refine mv_all_still k hfine fun s hs => ?_
      unfold stepsP at hs
      rw [show (p.1 == 6) = false by have := g.kind; simp; omega, show (p.1 == 5) = false by have := g.kind; simp; omega] at hs
      simp only [cond_false] at hs
      rcases List.mem_append.1 hs with q | q
      · unfold grps at q
        have hk := g.kind
        simp only [List.mem_append] at q
        rcases q with q | q | q | q <;> obtain ⟨_, e⟩ := grp1_mem q <;> rw [e] <;> show p.1 ≠ 5 ∧ p.1 ≠ 6 <;> omega
      · unfold owS at q
        split at q
        · cases q
        · rw [List.mem_singleton.1 q]
          show (bif p.1 == 2 then (8 : Int) else 7) ≠ 5 ∧ (bif p.1 == 2 then (8 : Int) else 7) ≠ 6
          cases p.1 == 2 <;> simp
    · unfold stepsP at hfine ⊢
      rw [show (p.1 == 6) = false by have := g.kind; simp; omega, show (p.1 == 5) = true by have := g.kind; simp [this]] at hfine ⊢
      simp only [cond_false, cond_true] at hfine ⊢
      have e : ∀ (s : Stp) l, opsAll (s :: l) = opsOf s ++ opsAll l := fun _ _ => rfl
      rw [e, mv_append, mv_oneS _ _ _ _ _ (hfine _ List.mem_cons_self), mv_all_still k (fun s hs => hfine s (List.mem_cons_of_mem _ hs)) (fun s hs => by
        unfold fillS at hs
        split at hs
        · cases hs
        · simp only [List.mem_cons, List.not_mem_nil, or_false] at hs
          rcases hs with e | e
          · rw [e]; exact (show (1 : Int) ≠ 5 ∧ (1 : Int) ≠ 6 from by decide)
          · rw [e]; exact (show (8 : Int) ≠ 5 ∧ (8 : Int) ≠ 6 from by decide)), if_pos rfl]
      by_cases q : p.2.2.2.2.2.2.1 = k
      · rw [if_pos q, if_pos ⟨g.kind, q⟩]; omega
      · rw [if_neg q, if_neg fun h => q h.2]; rfl
    · rw [if_neg (by have := g.kind; omega)]
      unfold stepsP at hfine ⊢
      rw [show (p.1 == 6) = true by have := g.kind; simp [this]] at hfine ⊢
      simp only [cond_true] at hfine ⊢
      have e : ∀ (s : Stp) l, opsAll (s :: l) = opsOf s ++ opsAll l := fun _ _ => rfl
      rw [e, e, mv_append, mv_append, mv_oneS _ _ _ _ _ (hfine _ List.mem_cons_self), mv_oneS _ _ _ _ _ (hfine _ (List.mem_cons_of_mem _ List.mem_cons_self))]
      show _ + (_ + 0) = (0 : Int)
      by_cases q : p.2.2.2.2.2.2.1 = k
      · rw [if_pos q, if_neg (by decide), if_pos rfl, if_pos q, if_pos rfl]; omega
      · rw [if_neg q, if_neg q]; rfl
end Go.Proofs.Pure

/- The law ProgMoves. -/
namespace Go.Proofs.Pure
open Go.Proofs.D Go.Proofs.F

theorem pm_ops (p : Prg) (hf : Few p) (l : List Stp) (hfine : ∀ s ∈ l, FineS s) (hl : l.length ≤ 5) :
    iterL pledgelaw13_ProgMoves.l1 loopN (((), ((), (l, ((l.length : Int), 0)))), (p, ([], ()))) = some (((), ()), (p, (opsAll l, ()))) := by
  have := loop_walk (step := pledgelaw13_ProgMoves.l1) l (fun i (acc : List OpE) => (((), ((), (l, ((l.length : Int), (i : Int))))), (p, (acc, ())))) (fun _ y acc => .inl (acc ++ opsOf y)) (fun acc => (((), ()), (p, (acc, ())))) (fun i acc => acc.length ≤ 6 * i) [] (by omega) (Nat.le_refl _) (fun i y acc hx hi => by
    have hi2 := get_lt hx
    have h1 := opsOf_len y
    have h2 : y.2.2.1.length ≤ 3 := by
      have := (hfine y (get_mem hx)).2
      unfold goodS at this
      simp only [Bool.and_eq_true, decide_eq_true_eq] at this
      exact this.1.1.2
    refine ⟨?_, fun _ h => by cases h; simp only [List.length_append]; omega⟩
    unfold pledgelaw13_ProgMoves.l1
    simp only [dec_t (show (i : Int) < (l.length : Int) by omega), cond_true]
    rw [nthK_get hx]
    refine (congrArg (fun o => Option.bind o _) (ops_val y (by omega))).trans ?_
    simp only [Option.bind_some]
    rw [room_ok (by omega), succ_i64 (by omega)]) (fun acc _ => by
    unfold pledgelaw13_ProgMoves.l1
    simp only [dec_f (show ¬ (l.length : Int) < (l.length : Int) by omega), cond_false])
  rw [show (((0 : Nat) : Int)) = 0 from rfl] at this
  rw [this, walk_gather, List.nil_append]; rfl

theorem pm_all (p : Prg) (k : Int) (l : List OpE) (hl : l.length ≤ 100) :
    iterL pledgelaw13_ProgMoves.l3 loopN (((), ((), (k, ((), 0)))), (p, (l, ([], ())))) = some (((), ((), (k, ()))), (p, (l, (allE k l, ())))) := by
  have := loop_walk (step := pledgelaw13_ProgMoves.l3) l (fun i (acc : List OpE) => (((), ((), (k, ((), (i : Int))))), (p, (l, (acc, ()))))) (fun _ y acc => .inl (acc ++ allG k y)) (fun acc => (((), ((), (k, ()))), (p, (l, (acc, ()))))) (fun i acc => acc.length ≤ i) [] (by omega) (Nat.le_refl _) (fun i y acc hx hi => by
    have hi2 := get_lt hx
    have hg : (allG k y).length ≤ 1 := by unfold allG; cases mvB k y <;> simp
    refine ⟨?_, fun _ h => by cases h; simp only [List.length_append]; omega⟩
    unfold pledgelaw13_ProgMoves.l3
    simp only [dec_t (show (i : Int) < (l.length : Int) by omega), dec_t (show (0 : Int) ≤ (i : Int) by omega), Bool.and_true, cond_true]
    rw [chk_true rfl, nthK_get hx]
    unfold allG mvB
    cases y.1.2.1 == k with
    | false => simp only [cond_false, Bool.false_and, List.append_nil]; rw [succ_i64 (by omega)]
    | true =>
      simp only [cond_true, Bool.true_and]
      rw [chk_true rfl, nthK_get hx]
      cases y.1.1 != 4 with
      | false => simp only [cond_false, List.append_nil]; rw [succ_i64 (by omega)]
      | true =>
        simp only [cond_true]
        rw [chk_true rfl, nthK_get hx, room_ok (by simp only [List.length_cons, List.length_nil]; omega), succ_i64 (by omega)]; rfl) (fun acc _ => by
    unfold pledgelaw13_ProgMoves.l3
    simp only [dec_f (show ¬ (l.length : Int) < (l.length : Int) by omega), cond_false])
  rw [show (((0 : Nat) : Int)) = 0 from rfl] at this
  rw [this, walk_gather, List.nil_append]; rfl

theorem wantV_range {p : Prg} (hf : Few p) (k : Int) : 0 ≤ wantV p k ∧ wantV p k < 9223372036854775808 := by
  have hq := wf_i64 hf.wf.2.2.2.2.2.2.2.2.2.1
  unfold wantV
  split
  · rename_i h
    rcases good_cases hf h.2.2 with g | g | g
    · have := g.kind; omega
    · have := g.qty; omega
    · have := g.kind; omega
  · omega

theorem pm_want (p : Prg) (hf : Few p) (k : Int) : (if p.1 = 5 ∧ p.2.2.2.2.2.2.1 = k ∧ ((opsAll (stepsV p)).length : Int) > 0 then p.2.2.2.2.2.2.2.2.2.1 else 0) = wantV p k := by
  unfold wantV
  cases hg : goodP 4 4 p with
  | false =>
    have e : stepsV p = [] := by unfold stepsV; rw [hg]; rfl
    rw [e, if_neg (by intro h; exact absurd h.2.2 (by simp [opsAll])), if_neg (by intro h; cases h.2.2)]
  | true =>
    by_cases h : p.1 = 5 ∧ p.2.2.2.2.2.2.1 = k
    · have hm := moves p hf k
      have hw : wantV p k = p.2.2.2.2.2.2.2.2.2.1 := by unfold wantV; rw [if_pos ⟨h.1, h.2, hg⟩]
      have h1 : 1 ≤ p.2.2.2.2.2.2.2.2.2.1 := by
        rcases good_cases hf hg with g | g | g
        · have := g.kind; omega
        · exact g.qty
        · have := g.kind; omega
      rw [hw] at hm
      have hpos : ((opsAll (stepsV p)).length : Int) > 0 := by
        cases hl : opsAll (stepsV p) with
        | nil => rw [hl] at hm; have : mv k [] = 0 := rfl; omega
        | cons a l => simp
      rw [if_pos ⟨h.1, h.2, hpos⟩, if_pos ⟨h.1, h.2, rfl⟩]
    · rw [if_neg (fun q => h ⟨q.1, q.2.1⟩), if_neg (fun q => h ⟨q.1, q.2.1⟩)]

theorem pm_round (p : Prg) (hf : Few p) (hl : (opsAll (stepsV p)).length ≤ 100) (hw : ∀ x ∈ opsAll (stepsV p), -9223372036854775808 ≤ x.2.1 ∧ x.2.1 < 9223372036854775808) (w : Nat) (h : w < 4) :
    pledgelaw13_ProgMoves.l2 (((), ((), (w : Int))), (p, (opsAll (stepsV p), ()))) = some (.inl (((), ((), ((w + 1 : Nat) : Int))), (p, (opsAll (stepsV p), ())))) := by
  have hm := moves p hf w
  have hr := wantV_range hf w
  have hwant := pm_want p hf w
  have hle := allE_len w (opsAll (stepsV p))
  have hn := net_one (l := allE w (opsAll (stepsV p))) allE_key (allE_wf hw) (by omega) (by rw [S_allE, hm]; omega) (by rw [S_allE, hm]; omega)
  rw [S_allE, hm] at hn
  generalize opsAll (stepsV p) = l at *
  unfold pledgelaw13_ProgMoves.l2
  simp only [dec_t (show (w : Int) < 4 by omega), cond_true]
  rw [pm_all p w l hl]
  simp only [Option.bind_some]
  refine (congrArg (fun o => Option.bind o _) hn).trans ?_
  simp only [Option.bind_some]
  have e0 : ∀ (N : List OpE) (b : Bool), (bif (p.1 : Int) == 5 then bif (p.2.2.2.2.2.2.1 : Int) == (w : Int) then bif decide ((l.length : Int) > 0) then some ((((), ((), ((w : Int), (N, (b, p.2.2.2.2.2.2.2.2.2.1))))), (p, (l, ()))) : ((Unit × Unit × Int × List OpE × Bool × Int) × Prg × List OpE × Unit)) else some ((((), ((), ((w : Int), (N, (b, 0))))), (p, (l, ())))) else some ((((), ((), ((w : Int), (N, (b, 0))))), (p, (l, ())))) else some ((((), ((), ((w : Int), (N, (b, 0))))), (p, (l, ()))))) =
      some ((((), ((), ((w : Int), (N, (b, wantV p w))))), (p, (l, ())))) := fun N b => by
    rw [← hwant]
    by_cases c1 : p.1 = 5
    · rw [show (p.1 == 5) = true by simp [c1]]
      by_cases c2 : p.2.2.2.2.2.2.1 = w
      · rw [show (p.2.2.2.2.2.2.1 == (w : Int)) = true by simp [c2]]
        by_cases c3 : (l.length : Int) > 0
        · rw [dec_t c3, if_pos ⟨c1, c2, c3⟩]; rfl
        · rw [dec_f c3, if_neg fun q => c3 q.2.2]; rfl
      · rw [show (p.2.2.2.2.2.2.1 == (w : Int)) = false by simp [c2], if_neg fun q => c2 q.2.1]; rfl
    · rw [show (p.1 == 5) = false by simp [c1], if_neg fun q => c1 q.1]; rfl
  refine (congrArg (fun o => Option.bind o _) (e0 _ _)).trans ?_
  simp only [Option.bind_some, Bool.not_true, cond_false]
  have es : IntKind.u8.wrap ((w : Int) + 1) = ((w + 1 : Nat) : Int) := by
    have : w = 0 ∨ w = 1 ∨ w = 2 ∨ w = 3 := by omega
    rcases this with e | e | e | e <;> subst e <;> rfl
  by_cases q : wantV p w = 0
  · rw [if_pos q, q]
    simp only [beq_self_eq_true, cond_true, bne_self_eq_false, cond_false, List.length_nil, es]; rfl
  · rw [if_neg q, show (wantV p w == 0) = false by simp [q], show (wantV p w != 0) = true by simp [q]]
    simp only [cond_true, cond_false, List.length_cons, List.length_nil]
    show (nthK [((k0, (wantV p w, ())) : OpE)] ((0 : Nat) : Int) fun e13 => bif e13.2.1 != wantV p w then _ else _) = _
    rw [nthK_get (show [((k0, (wantV p w, ())) : OpE)][0]? = some (k0, (wantV p w, ())) from rfl)]
    simp only [bne_self_eq_false, cond_false, es]

theorem ProgMoves (x0 : Prg) (hx0 : WfE kProgram x0) : pledgelaw13_ProgMoves x0 = some true := by
  unfold pledgelaw13_ProgMoves
  rcases few13_cases x0 hx0 with e | ⟨e, h, a, b, c⟩
  · rw [e, works13]; rfl
  rw [e, works13, steps_val x0 h]
  simp only [Option.bind_some, show ((1 : Int) == 0) = false by decide, cond_false]
  have hfine : ∀ s ∈ stepsV x0, FineS s := fun s hs => by
    unfold stepsV at hs
    cases hg : goodP 4 4 x0 with
    | false => rw [hg] at hs; cases hs
    | true => rw [hg] at hs; exact stepsP_fine h hg s hs
  have hlen : (stepsV x0).length ≤ 5 := by
    unfold stepsV
    cases hg : goodP 4 4 x0 with
    | false => simp
    | true => exact (stepsP_len h hg).2
  rw [pm_ops x0 h _ hfine hlen]
  simp only [Option.bind_some]
  have hl := opsAll_len hfine
  have hr := fun w hw => pm_round x0 h (by omega) (opsAll_wf hfine) w hw
  have hlp : iterL pledgelaw13_ProgMoves.l2 loopN (((), ((), ((0 : Nat) : Int))), (x0, (opsAll (stepsV x0), ()))) = some (.inl ()) := by
    refine iterL_mono (n := 5) ?_ (by rw [loopN_eq]; omega)
    rw [iterL_next (hr 0 (by omega)), iterL_next (hr 1 (by omega)), iterL_next (hr 2 (by omega)), iterL_next (hr 3 (by omega))]
    exact iterL_done rfl
  refine (congrArg (fun o => Option.bind o _) hlp).trans ?_
  rfl
end Go.Proofs.Pure
