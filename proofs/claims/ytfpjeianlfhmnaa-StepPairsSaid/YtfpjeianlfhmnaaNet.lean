/- What additions come to: op.Net. -/
import Derived.Test.YtfpjeianlfhmnaaSum
import Derived.Test.YtfpjeianlfhmnaaDOpen
set_option linter.unusedVariables false
namespace Go.Proofs.Pure
open Go.Proofs.D Go.Proofs.F

abbrev KE := Int × Int × Int × Unit
abbrev OpE := KE × Int × Unit

theorem eqK_refl (a : KE) : eqE kKey a a = true := by
  show ((a.1 == a.1) && ((a.2.1 == a.2.1) && ((a.2.2.1 == a.2.2.1) && true))) = true
  simp
theorem eqK_iff {a b : KE} : eqE kKey a b = true ↔ a = b := ⟨fun h => eqE_eq (c := kKey) rfl h, fun h => by rw [h]; exact eqK_refl b⟩
theorem eqK_ne {a b : KE} (h : a ≠ b) : eqE kKey a b = false := by
  cases hq : eqE kKey a b with
  | false => rfl
  | true => exact absurd (eqK_iff.1 hq) h
theorem eqO_iff {a b : OpE} : eqE kOp a b = true ↔ a = b := ⟨fun h => eqE_eq (c := kOp) rfl h, fun h => by
  rw [h]
  show (eqE kKey b.1 b.1 && ((b.2.1 == b.2.1) && true)) = true
  rw [eqK_refl]; simp⟩

/-- All that is added to a key. -/
def dl (l : List OpE) (k : KE) : List Int := (l.filter fun x => eqE kKey x.1 k).map fun x => x.2.1
def S (l : List OpE) (k : KE) : Int := total (dl l k)
theorem dl_nil (k : KE) : dl [] k = [] := rfl
theorem dl_cons (x : OpE) (l : List OpE) (k : KE) : dl (x :: l) k = if x.1 = k then x.2.1 :: dl l k else dl l k := by
  unfold dl
  by_cases h : x.1 = k
  · rw [if_pos h, List.filter_cons_of_pos (by simpa using eqK_iff.2 h)]; rfl
  · rw [if_neg h, List.filter_cons_of_neg (by simp [eqK_ne h])]
theorem dl_append (l l' : List OpE) (k : KE) : dl (l ++ l') k = dl l k ++ dl l' k := by
  unfold dl; rw [List.filter_append, List.map_append]
theorem S_append (l l' : List OpE) (k : KE) : S (l ++ l') k = S l k + S l' k := by
  unfold S; rw [dl_append, total_append]
theorem S_cons (x : OpE) (l : List OpE) (k : KE) : S (x :: l) k = (if x.1 = k then x.2.1 else 0) + S l k := by
  unfold S; rw [dl_cons]
  by_cases h : x.1 = k
  · rw [if_pos h, if_pos h]; rfl
  · rw [if_neg h, if_neg h, Int.zero_add]
theorem dl_mem {l : List OpE} {k : KE} {d : Int} (h : d ∈ dl l k) : ∃ x ∈ l, x.1 = k ∧ x.2.1 = d := by
  unfold dl at h
  obtain ⟨x, hx, e⟩ := List.mem_map.1 h
  obtain ⟨h1, h2⟩ := List.mem_filter.1 hx
  exact ⟨x, h1, eqK_iff.1 h2, e⟩
theorem dl_len (l : List OpE) (k : KE) : (dl l k).length ≤ l.length := by
  unfold dl; rw [List.length_map]; exact List.length_filter_le _ _
theorem dl_none {l : List OpE} {k : KE} (h : ∀ x ∈ l, x.1 ≠ k) : dl l k = [] := by
  unfold dl
  rw [List.filter_eq_nil_iff.2 fun x hx => by simp [eqK_ne (h x hx)]]; rfl

/-! ### The groups -/
abbrev kS : K := .slice (.int .i64)
abbrev EsE := List (KE × List Int)
def pM (es : EsE) (y : KE) (z : List Int) : EsE := putM kKey kS es y z
def gM (es : EsE) (k : KE) : List Int := getM kKey kS es k
def gA (es : EsE) (y : KE) (d : Int) : EsE := pM es y (gM es y ++ [d])
def gG : List OpE → EsE → EsE | [], es => es | x :: l, es => gG l (gA es x.1 x.2.1)
def keysE (es : EsE) : List KE := es.map fun p => p.1
theorem gG_eq : ∀ (l : List OpE) (es : EsE), grpGo (kk := kKey) l es = gG l es
  | [], es => rfl
  | x :: l, es => gG_eq l (gA es x.1 x.2.1)
theorem pM_cons (e : KE × List Int) (r : EsE) (y : KE) (z : List Int) : pM (e :: r) y z = if y = e.1 then (y, z) :: r else e :: pM r y z := by
  show (bif eqE kKey y e.1 then (y, z) :: r else e :: pM r y z) = _
  by_cases h : y = e.1
  · rw [if_pos h, eqK_iff.2 h]; rfl
  · rw [if_neg h, eqK_ne h]; rfl
theorem gM_cons (e : KE × List Int) (r : EsE) (k : KE) : gM (e :: r) k = if k = e.1 then e.2 else gM r k := by
  show (bif eqE kKey k e.1 then e.2 else gM r k) = _
  by_cases h : k = e.1
  · rw [if_pos h, eqK_iff.2 h]; rfl
  · rw [if_neg h, eqK_ne h]; rfl
theorem get_put (es : EsE) (y k : KE) (z : List Int) : gM (pM es y z) k = if k = y then z else gM es k := by
  induction es with
  | nil =>
    show gM [(y, z)] k = _
    rw [gM_cons]
  | cons e r ih =>
    rw [pM_cons]
    by_cases h : y = e.1
    · rw [if_pos h, gM_cons, gM_cons]
      by_cases h2 : k = y
      · rw [if_pos h2, if_pos h2]
      · rw [if_neg h2, if_neg h2, if_neg (by rw [← h]; exact h2)]
    · rw [if_neg h, gM_cons, gM_cons, ih]
      by_cases h2 : k = e.1
      · rw [if_pos h2, if_neg (by rw [h2]; exact fun q => h q.symm), if_pos h2]
      · rw [if_neg h2, if_neg h2]
theorem put_keys (es : EsE) (y : KE) (z : List Int) : keysE (pM es y z) = if y ∈ keysE es then keysE es else keysE es ++ [y] := by
  induction es with
  | nil => rw [if_neg (by simp [keysE])]; rfl
  | cons e r ih =>
    rw [pM_cons]
    by_cases h : y = e.1
    · rw [if_pos h, if_pos (by simp [keysE, h])]
      show y :: keysE r = e.1 :: keysE r
      rw [h]
    · rw [if_neg h]
      show e.1 :: keysE (pM r y z) = if y ∈ e.1 :: keysE r then e.1 :: keysE r else e.1 :: keysE r ++ [y]
      rw [ih]
      by_cases h2 : y ∈ keysE r
      · rw [if_pos h2, if_pos (List.mem_cons_of_mem _ h2)]
      · rw [if_neg h2, if_neg (fun q => (List.mem_cons.1 q).elim h h2)]; rfl
theorem pM_len (es : EsE) (y : KE) (z : List Int) : (pM es y z).length ≤ es.length + 1 := by
  have := congrArg List.length (put_keys es y z)
  unfold keysE at this
  rw [List.length_map] at this
  rw [this]
  split <;> simp
theorem gG_len : ∀ (l : List OpE) (es : EsE), (gG l es).length ≤ es.length + l.length
  | [], es => Nat.le_refl _
  | x :: l, es => by
    have h1 := gG_len l (gA es x.1 x.2.1)
    have h2 : (gA es x.1 x.2.1).length ≤ es.length + 1 := pM_len _ _ _
    show (gG l (gA es x.1 x.2.1)).length ≤ _
    simp only [List.length_cons]; omega
theorem grp_get : ∀ (l : List OpE) (es : EsE) (k : KE), gM (gG l es) k = gM es k ++ dl l k
  | [], es, k => by rw [dl_nil, List.append_nil]; rfl
  | x :: l, es, k => by
    show gM (gG l (gA es x.1 x.2.1)) k = _
    rw [grp_get l _ k, dl_cons]
    unfold gA
    rw [get_put]
    by_cases h : x.1 = k
    · rw [if_pos h, if_pos h.symm, h, List.append_assoc]; rfl
    · rw [if_neg h, if_neg (fun q => h q.symm)]
theorem grp_keys : ∀ (l : List OpE) (es : EsE), (keysE es).Nodup → (keysE (gG l es)).Nodup ∧ ∀ k, k ∈ keysE (gG l es) ↔ k ∈ keysE es ∨ ∃ x ∈ l, x.1 = k
  | [], es, h => ⟨h, fun k => by show k ∈ keysE es ↔ _; simp⟩
  | x :: l, es, h => by
    have hk := put_keys es x.1 (gM es x.1 ++ [x.2.1])
    have hn : (keysE (gA es x.1 x.2.1)).Nodup := by
      unfold gA
      rw [hk]
      split
      · exact h
      · rename_i q
        exact List.nodup_append.2 ⟨h, by simp, fun a ha b hb e => by
          rw [List.mem_singleton] at hb
          subst hb; subst e; exact q ha⟩
    obtain ⟨h1, h2⟩ := grp_keys l _ hn
    refine ⟨h1, fun k => (h2 k).trans ?_⟩
    have : k ∈ keysE (gA es x.1 x.2.1) ↔ k ∈ keysE es ∨ x.1 = k := by
      unfold gA
      rw [hk]
      split
      · rename_i q
        exact ⟨.inl, fun r => r.elim id fun e => e ▸ q⟩
      · rw [List.mem_append, List.mem_singleton]
        exact ⟨fun r => r.imp id Eq.symm, fun r => r.imp id Eq.symm⟩
    rw [this]
    constructor
    · rintro ((q | q) | ⟨y, hy, q⟩)
      · exact .inl q
      · exact .inr ⟨x, List.mem_cons_self, q⟩
      · exact .inr ⟨y, List.mem_cons_of_mem _ hy, q⟩
    · rintro (q | ⟨y, hy, q⟩)
      · exact .inl (.inl q)
      · rcases List.mem_cons.1 hy with e | e
        · subst e; exact .inl (.inr q)
        · exact .inr ⟨y, e, q⟩

/-! ### Keys, in order -/
/-- Just the keys of some additions, each once, in order. -/
structure SK (l : List OpE) (ks : List KE) : Prop where
  sorted : ks.Pairwise fun a b => ltOf cmp3 a b = true
  mem : ∀ k, k ∈ ks ↔ ∃ x ∈ l, x.1 = k
theorem lt_asymm {a b : KE} (h : ltOf cmp3 a b = true) : ltOf cmp3 b a = false := by
  cases hq : ltOf cmp3 b a with
  | false => rfl
  | true => have := swo3.trans a b a h hq; rw [swo3.irrefl] at this; cases this
theorem sorted_nodup {ks : List KE} (h : ks.Pairwise fun a b => ltOf cmp3 a b = true) : ks.Nodup := h.imp fun {a b} q e => by
  subst e; rw [swo3.irrefl] at q; cases q
theorem sorted_unique {ks ks' : List KE} (h : ks.Pairwise fun a b => ltOf cmp3 a b = true) (h' : ks'.Pairwise fun a b => ltOf cmp3 a b = true) (hm : ∀ k, k ∈ ks ↔ k ∈ ks') : ks = ks' := by
  refine List.Perm.eq_of_pairwise (le := fun a b => ltOf cmp3 a b = true) (fun a b _ _ h1 h2 => ?_) h h' ((List.perm_ext_iff_of_nodup (sorted_nodup h) (sorted_nodup h')).2 hm)
  rw [lt_asymm h1] at h2; cases h2
theorem SK.unique {l l' : List OpE} {ks ks' : List KE} (h : SK l ks) (h' : SK l' ks') (hm : ∀ k, (∃ x ∈ l, x.1 = k) ↔ ∃ x ∈ l', x.1 = k) : ks = ks' :=
  sorted_unique h.sorted h'.sorted fun k => (h.mem k).trans ((hm k).trans (h'.mem k).symm)
theorem sort_SK (l : List OpE) : SK l ((keysE (gG l [])).mergeSort (leOf cmp3)) := by
  obtain ⟨h1, h2⟩ := grp_keys l [] List.nodup_nil
  have hp := List.mergeSort_perm (keysE (gG l [])) (leOf cmp3)
  refine ⟨?_, fun k => (hp.mem_iff).trans ((h2 k).trans ⟨fun q => q.elim (fun r => by cases r) id, .inr⟩)⟩
  have hn := hp.nodup_iff.2 h1
  have hs : ((keysE (gG l [])).mergeSort (leOf cmp3)).Pairwise fun a b => leOf cmp3 a b = true := List.pairwise_mergeSort (fun a b c q1 q2 => by
    unfold leOf at *
    simp only [Bool.not_eq_true'] at *
    exact swo3.ntrans c b a q2 q1) (fun a b => by
    unfold leOf
    cases q1 : ltOf cmp3 b a with
    | false => rfl
    | true => rw [lt_asymm q1]; rfl) _
  refine (hs.and hn).imp fun {a b} q => ?_
  obtain ⟨q1, q2⟩ := q
  unfold leOf at q1
  simp only [Bool.not_eq_true'] at q1
  cases hq : ltOf cmp3 a b with
  | true => rfl
  | false => exact absurd (tot3 a b hq q1) q2

/-! ### What comes of it -/
def netV (l : List OpE) (ks : List KE) : List OpE × Bool × Unit :=
  if ks.all (fun k => fitsI (S l k)) = true then (ks.filterMap (fun k => if S l k = 0 then none else some (k, (S l k, ()))), (true, ())) else ([], (false, ()))

abbrev netA := List OpE
theorem net_walk (f : KE → Int) : ∀ (ks : List KE) (i : Nat) (acc : List OpE), walkL (X := (Unit × List OpE × Unit) ⊕ (Unit × Bool)) (fun _ k acc => if fitsI (f k) = true then (if f k = 0 then .inl acc else .inl (acc ++ [(k, (f k, ()))])) else .inr (.inr ((), false))) (fun acc => .inl ((), (acc, ()))) i ks acc =
    if ks.all (fun k => fitsI (f k)) = true then .inl ((), (acc ++ ks.filterMap (fun k => if f k = 0 then none else some (k, (f k, ()))), ())) else .inr ((), false)
  | [], i, acc => by simp [walkL]
  | k :: ks, i, acc => by
    have e : ((k :: ks).all fun k => fitsI (f k)) = (fitsI (f k) && ks.all fun k => fitsI (f k)) := rfl
    rw [e]
    by_cases h1 : fitsI (f k) = true
    · rw [h1, Bool.true_and]
      by_cases h2 : f k = 0
      · have ew : ∀ r, walkL (X := (Unit × List OpE × Unit) ⊕ (Unit × Bool)) (fun _ k acc => if fitsI (f k) = true then (if f k = 0 then .inl acc else .inl (acc ++ [(k, (f k, ()))])) else .inr (.inr ((), false))) (fun acc => .inl ((), (acc, ()))) (i + 1) ks acc = r → walkL (X := (Unit × List OpE × Unit) ⊕ (Unit × Bool)) (fun _ k acc => if fitsI (f k) = true then (if f k = 0 then .inl acc else .inl (acc ++ [(k, (f k, ()))])) else .inr (.inr ((), false))) (fun acc => .inl ((), (acc, ()))) i (k :: ks) acc = r := fun r hr => by
          rw [walkL, if_pos h1, if_pos h2]; exact hr
        refine ew _ ?_
        rw [net_walk f ks, List.filterMap_cons_none (by rw [if_pos h2])]
      · have ew : ∀ r, walkL (X := (Unit × List OpE × Unit) ⊕ (Unit × Bool)) (fun _ k acc => if fitsI (f k) = true then (if f k = 0 then .inl acc else .inl (acc ++ [(k, (f k, ()))])) else .inr (.inr ((), false))) (fun acc => .inl ((), (acc, ()))) (i + 1) ks (acc ++ [(k, (f k, ()))]) = r → walkL (X := (Unit × List OpE × Unit) ⊕ (Unit × Bool)) (fun _ k acc => if fitsI (f k) = true then (if f k = 0 then .inl acc else .inl (acc ++ [(k, (f k, ()))])) else .inr (.inr ((), false))) (fun acc => .inl ((), (acc, ()))) i (k :: ks) acc = r := fun r hr => by
          rw [walkL, if_pos h1, if_neg h2]; exact hr
        refine ew _ ?_
        rw [net_walk f ks, List.filterMap_cons_some (by rw [if_neg h2]), List.append_assoc]; rfl
    · rw [walkL, if_neg h1]
      rw [show fitsI (f k) = false by simpa using h1, Bool.false_and]; rfl

theorem bind_of {A B : Type} {x : Option A} {a : A} {f : A → Option B} (h : x = some a) : x.bind f = f a := by rw [h]; rfl

theorem net_val {l : List OpE} {ks : List KE} (hw : ∀ x ∈ l, -9223372036854775808 ≤ x.2.1 ∧ x.2.1 < 9223372036854775808) (hl : l.length ≤ 1000) (hk : SK l ks) : op_Net l = some (netV l ks) := by
  have hks : ks = (keysE (gG l [])).mergeSort (leOf cmp3) := SK.unique hk (sort_SK l) fun _ => Iff.rfl
  have hg := gG_len l []
  simp only [List.length_nil, Nat.zero_add] at hg
  have e1 : grpG kKey (((), (false, ((), (l, ((l.length : Int), 0))))), ([], ())) = some (((), (false, ())), (gG l [], ())) := by
    show (bif decide ((l.length : Int) = (l.length : Int)) && (decide ((0 : Int) = 0) && (Nat.ble l.length 99999 && true)) then some (((), (false, ())), (grpGo (kk := kKey) l [], ())) else none) = _
    rw [dec_t rfl, dec_t rfl, Nat.ble_eq_true_of_le (show l.length ≤ 99999 by omega)]
    exact congrArg (fun es : EsE => some ((((), (false, ())) : Unit × Bool × Unit), ((es, ()) : EsE × Unit))) (gG_eq l [])
  have e2 : k8G kKey kS (leOf cmp3) (((), (false, ((), ()))), (gG l [], ())) = some (((), (false, ((), ((), (ks, ((ks.length : Int), 0)))))), (gG l [], ())) := by
    show (bif Nat.ble (gG l []).length 4294967296 then some (((), (false, ((), ((), ((keysE (gG l [])).mergeSort (leOf cmp3), ((((keysE (gG l [])).mergeSort (leOf cmp3)).length : Int), (0 : Int))))))), (gG l [], ())) else none) = _
    rw [Nat.ble_eq_true_of_le (show (gG l []).length ≤ 4294967296 by omega), ← hks]; rfl
  have hlen : ks.length ≤ 1000 := by
    rw [hks, List.length_mergeSort]
    show ((gG l []).map fun p => p.1).length ≤ 1000
    rw [List.length_map]; omega
  have hsum : ∀ k, calc_Sum (getM kKey kS (gG l []) k) = some (sumOf (dl l k)) := fun k => by
    have e : gM (gG l []) k = dl l k := (grp_get l [] k).trans (List.nil_append _)
    refine (congrArg calc_Sum e).trans ?_
    refine sum_all _ (by have := dl_len l k; omega) fun d hd => ?_
    obtain ⟨x, hx, _, e⟩ := dl_mem hd
    rw [← e]; exact hw x hx
  have hlp := loop_walk (step := op_Net.l1) ks (fun i (acc : List OpE) => (((), ((), (ks, ((ks.length : Int), (i : Int))))), (gG l [], (acc, ())))) (X := (Unit × List OpE × Unit) ⊕ (Unit × Bool))
    (fun _ k acc => if fitsI (S l k) = true then (if S l k = 0 then .inl acc else .inl (acc ++ [(k, (S l k, ()))])) else .inr (.inr ((), false))) (fun acc => .inl ((), (acc, ()))) (fun i acc => acc.length ≤ i) [] (by omega) (Nat.le_refl _) (fun i k acc hx hi => by
    have hi2 := get_lt hx
    constructor
    · unfold op_Net.l1
      simp only [dec_t (show (i : Int) < (ks.length : Int) by omega), cond_true]
      rw [nthK_get hx]
      refine (bind_of (f := _) (hsum k)).trans ?_
      unfold sumOf
      by_cases h1 : fitsI (S l k) = true
      · rw [if_pos (show fitsI (total (dl l k)) = true from h1), if_pos h1]
        simp only [Bool.not_true, cond_false]
        by_cases h2 : S l k = 0
        · rw [if_pos h2, show ((total (dl l k) : Int) != 0) = false by rw [show total (dl l k) = 0 from h2]; rfl]
          simp only [cond_false]
          rw [succ_i64 (by omega)]
        · rw [if_neg h2, show ((total (dl l k) : Int) != 0) = true by have : total (dl l k) ≠ 0 := h2; simpa using this]
          simp only [cond_true]
          rw [room_ok (by simp only [List.length_cons, List.length_nil]; omega), succ_i64 (by omega)]; rfl
      · rw [if_neg (show ¬ fitsI (total (dl l k)) = true from h1), if_neg h1]; rfl
    · intro a ha
      by_cases h1 : fitsI (S l k) = true
      · rw [if_pos h1] at ha
        by_cases h2 : S l k = 0
        · rw [if_pos h2] at ha; cases ha; omega
        · rw [if_neg h2] at ha; cases ha; simp only [List.length_append, List.length_cons, List.length_nil]; omega
      · rw [if_neg h1] at ha; cases ha) (fun acc _ => by
    unfold op_Net.l1
    simp only [dec_f (show ¬ (ks.length : Int) < (ks.length : Int) by omega), cond_false])
  rw [show (((0 : Nat) : Int)) = 0 from rfl, net_walk (S l)] at hlp
  refine (bind_of (f := _) e1).trans ((bind_of (f := _) e2).trans ((bind_of (f := _) hlp).trans ?_))
  unfold netV
  by_cases h : ks.all (fun k => fitsI (S l k)) = true
  · rw [if_pos h, if_pos h]; rfl
  · rw [if_neg h, if_neg h]
theorem net_all {l : List OpE} (hw : ∀ x ∈ l, -9223372036854775808 ≤ x.2.1 ∧ x.2.1 < 9223372036854775808) (hl : l.length ≤ 1000) : ∃ ks, SK l ks ∧ op_Net l = some (netV l ks) := ⟨_, sort_SK l, net_val hw hl (sort_SK l)⟩
end Go.Proofs.Pure
