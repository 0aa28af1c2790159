/- A table: its keys, each once. -/
import Derived.Test.YtlmponhpepcllaaKeyLt
set_option linter.unusedVariables false
namespace Go.Proofs.Pure
open Go.Proofs.D Go.Proofs.F

abbrev TM := List (KE × Int)
def gT (m : TM) (k : KE) : Int := getM kKey (.int .i64) m k
def hT (m : TM) (k : KE) : Bool := hasM kKey (.int .i64) m k
def pT (m : TM) (k : KE) (v : Int) : TM := putM kKey (.int .i64) m k v
def dT (m : TM) (k : KE) : TM := delM kKey (.int .i64) m k
def keysT (m : TM) : List KE := m.map fun p => p.1
theorem eqK_dec (a b : KE) : eqE kKey a b = decide (a = b) := by rw [Bool.eq_iff_iff, decide_eq_true_iff]; exact eqK_iff
theorem hT_val (m : TM) (k : KE) : hT m k = decide (k ∈ keysT m) := by
  induction m with
  | nil => rfl
  | cons e r ih =>
    show (eqE kKey k e.1 || hT r k) = _
    rw [ih, eqK_dec]
    show (decide (k = e.1) || decide (k ∈ keysT r)) = decide (k ∈ e.1 :: keysT r)
    rw [Bool.eq_iff_iff]
    simp
theorem keys_pT (es : TM) (y : KE) (z : Int) : keysT (pT es y z) = if y ∈ keysT es then keysT es else keysT es ++ [y] := by
  induction es with
  | nil => rw [if_neg (by simp [keysT])]; rfl
  | cons e r ih =>
    have hc : pT (e :: r) y z = bif eqE kKey y e.1 then (y, z) :: r else e :: pT r y z := rfl
    rw [hc, eqK_dec]
    by_cases h : y = e.1
    · rw [dec_t h, if_pos (by simp [keysT, h])]
      show y :: keysT r = e.1 :: keysT r
      rw [h]
    · rw [dec_f h]
      show e.1 :: keysT (pT r y z) = if y ∈ e.1 :: keysT r then e.1 :: keysT r else e.1 :: keysT r ++ [y]
      rw [ih]
      by_cases h2 : y ∈ keysT r
      · rw [if_pos h2, if_pos (List.mem_cons_of_mem _ h2)]
      · rw [if_neg h2, if_neg (fun q => (List.mem_cons.1 q).elim h h2)]; rfl
theorem keys_dT (es : TM) (y : KE) : keysT (dT es y) = (keysT es).erase y := by
  induction es with
  | nil => rfl
  | cons e r ih =>
    have hc : dT (e :: r) y = bif eqE kKey y e.1 then r else e :: dT r y := rfl
    rw [hc, eqK_dec]
    show _ = (e.1 :: keysT r).erase y
    by_cases h : y = e.1
    · rw [dec_t h, h, List.erase_cons_head]; rfl
    · rw [dec_f h, List.erase_cons_tail (by simpa using fun q : e.1 = y => h q.symm)]
      show e.1 :: keysT (dT r y) = _
      rw [ih]
structure TabOk (m : TM) (n : Nat) : Prop where
  nd : (keysT m).Nodup
  len : m.length ≤ n
theorem TabOk.put {m : TM} {n : Nat} (h : TabOk m n) (k : KE) (v : Int) : TabOk (pT m k v) (n + 1) := by
  have hk := keys_pT m k v
  have hl : (pT m k v).length = (keysT (pT m k v)).length := by unfold keysT; rw [List.length_map]
  have hl2 : m.length = (keysT m).length := by unfold keysT; rw [List.length_map]
  have := h.len
  by_cases q : k ∈ keysT m
  · rw [if_pos q] at hk
    exact ⟨by rw [hk]; exact h.nd, by rw [hl, hk]; omega⟩
  · rw [if_neg q] at hk
    refine ⟨by rw [hk]; exact List.nodup_append.2 ⟨h.nd, by simp, fun a ha b hb e => q (by rw [List.mem_singleton.1 hb] at e; exact e ▸ ha)⟩, by rw [hl, hk, List.length_append, List.length_singleton]; omega⟩
theorem TabOk.del {m : TM} {n : Nat} (h : TabOk m n) (k : KE) : TabOk (dT m k) (n + 1) := by
  have hk := keys_dT m k
  have hl : (dT m k).length = (keysT (dT m k)).length := by unfold keysT; rw [List.length_map]
  have hl2 : m.length = (keysT m).length := by unfold keysT; rw [List.length_map]
  have := h.len
  have := List.length_erase_le (a := k) (l := keysT m)
  exact ⟨by rw [hk]; exact h.nd.erase _, by rw [hl, hk]; omega⟩
/-- Keys that are each there once, sorted, rise. -/
theorem sort_rises {ks : List KE} (h1 : ks.Nodup) : (ks.mergeSort (leOf cmp3)).Pairwise fun a b => ltOf cmp3 a b = true := by
  have hp := List.mergeSort_perm ks (leOf cmp3)
  have hn := hp.nodup_iff.2 h1
  have hs : (ks.mergeSort (leOf cmp3)).Pairwise fun a b => leOf cmp3 a b = true := List.pairwise_mergeSort (fun a b c q1 q2 => by
    unfold leOf at *
    simp only [Bool.not_eq_true'] at *
    exact swo3.ntrans c b a q2 q1) (fun a b => by
    unfold leOf
    cases q1 : ltOf cmp3 b a with
    | false => rfl
    | true => rw [lt_asymm q1]; rfl) _
  refine (hs.and hn).imp fun {a b} q => ?_
  obtain ⟨q1, q2⟩ := q
  unfold leOf at q1
  simp only [Bool.not_eq_true'] at q1
  cases hq : ltOf cmp3 a b with
  | true => rfl
  | false => exact absurd (tot3 a b hq q1) q2
def sortT (m : TM) : List KE := (keysT m).mergeSort (leOf cmp3)
theorem keysT_val (m : TM) (h : m.length ≤ 100000) : table_Table_int64_Keys m = some (sortT m, (((), ()), (m, ()))) := by
  show (bif Nat.ble m.length 4294967296 then some (sortT m, (((), ()), (m, ()))) else none) = _
  rw [Nat.ble_eq_true_of_le (by omega)]; rfl
theorem sortT_len (m : TM) : (sortT m).length = m.length := by
  unfold sortT keysT
  rw [List.length_mergeSort, List.length_map]

theorem walk_through {α X : Type} (d : X) : ∀ (l : List α) (i : Nat), walkL (X := X) (fun _ (_ : α) (_ : Unit) => .inl ()) (fun _ => d) i l () = d
  | [], _ => rfl
  | _ :: l, i => walk_through d l (i + 1)
/-! ### The document's rows -/
theorem refGetT (l : List OpE) (k : KE) (hl : l.length < 1000000) : ∃ r, pledgeref05_Get l k = some r := by
  unfold pledgeref05_Get
  have := loop_walk (step := pledgeref05_Get.l1) l (fun i (_ : Unit) => ((l, ((), (i : Int))), (k, ()))) (X := Unit ⊕ (Int × Bool)) (fun _ x _ => bif eqE kKey x.1 k then .inr (.inr (x.2.1, true)) else .inl ()) (fun _ => .inl ()) (fun _ _ => True) () (by omega) trivial (fun i x _ hx _ => by
    have hi := get_lt hx
    refine ⟨?_, fun _ _ => trivial⟩
    unfold pledgeref05_Get.l1
    simp only [dec_t (show (i : Int) < (l.length : Int) by omega), cond_true]
    rw [nthK_get hx]
    cases eqE kKey x.1 k with
    | true => simp only [cond_true]; rw [nthK_get hx]
    | false => simp only [cond_false]; rw [succ_i64 (by omega)]) (fun _ _ => by
    unfold pledgeref05_Get.l1
    simp only [dec_f (show ¬ (l.length : Int) < (l.length : Int) by omega), cond_false])
  rw [show (((0 : Nat) : Int)) = 0 from rfl] at this
  rw [this, Option.bind_some]
  cases walkL (X := Unit ⊕ (Int × Bool)) (fun _ (x : OpE) _ => bif eqE kKey x.1 k then .inr (.inr (x.2.1, true)) else .inl ()) (fun _ => .inl ()) 0 l () with
  | inl y => exact ⟨_, rfl⟩
  | inr y => exact ⟨_, rfl⟩
theorem flat_le {α β : Type} (g : α → List β) (hg : ∀ x, (g x).length ≤ 1) : ∀ l : List α, (l.flatMap g).length ≤ l.length
  | [] => by simp
  | x :: l => by
    have := flat_le g hg l
    have := hg x
    rw [List.flatMap_cons, List.length_append, List.length_cons]; omega
theorem refDelT (l : List OpE) (k : KE) (hl : l.length < 1000000) : ∃ r, pledgeref05_Del l k = some r ∧ r.length ≤ l.length := by
  unfold pledgeref05_Del
  have hg : ∀ x : OpE, (bif !(eqE kKey x.1 k) then [x] else []).length ≤ 1 := fun x => by cases eqE kKey x.1 k <;> simp
  have := loop_walk (step := pledgeref05_Del.l1) l (fun i (acc : List OpE) => ((l, ((), ((), (i : Int)))), (k, (acc, ())))) (X := Unit × List OpE × Unit) (fun _ x acc => .inl (acc ++ bif !(eqE kKey x.1 k) then [x] else [])) (fun acc => ((), (acc, ()))) (fun i acc => acc.length ≤ i) [] (by omega) (Nat.le_refl _) (fun i x acc hx hi => by
    have hi2 := get_lt hx
    have hb := hg x
    refine ⟨?_, fun _ q => by cases q; rw [List.length_append]; omega⟩
    unfold pledgeref05_Del.l1
    simp only [dec_t (show (i : Int) < (l.length : Int) by omega), cond_true]
    rw [nthK_get hx]
    cases eqE kKey x.1 k with
    | true => simp only [Bool.not_true, cond_false, List.append_nil]; rw [succ_i64 (by omega)]
    | false => simp only [Bool.not_false, cond_true]; rw [nthK_get hx, room_ok (by simp; omega), succ_i64 (by omega)]) (fun _ _ => by
    unfold pledgeref05_Del.l1
    simp only [dec_f (show ¬ (l.length : Int) < (l.length : Int) by omega), cond_false])
  rw [show (((0 : Nat) : Int)) = 0 from rfl, walk_gather (fun x : OpE => bif !(eqE kKey x.1 k) then [x] else []), List.nil_append] at this
  exact ⟨_, by rw [this]; rfl, flat_le _ hg l⟩
theorem less_valT (a b : KE) : ∃ r, pledgeref04_Less a b = some r := by
  unfold pledgeref04_Less
  cases a.1 != b.1 with
  | true => exact ⟨_, rfl⟩
  | false =>
    cases a.2.1 != b.2.1 with
    | true => exact ⟨_, rfl⟩
    | false => exact ⟨_, rfl⟩
def lessB (a b : KE) : Bool := match pledgeref04_Less a b with | some r => r | none => false
theorem less_valB (a b : KE) : pledgeref04_Less a b = some (lessB a b) := by
  obtain ⟨r, h⟩ := less_valT a b
  unfold lessB; rw [h]
def putG (k : KE) (v : Int) (a : Bool × List OpE) (x : OpE) : Bool × List OpE :=
  (a.1 || !(lessB x.1 k), (bif !a.1 && !(lessB x.1 k) then a.2 ++ [(k, (v, ()))] else a.2) ++ (bif !(eqE kKey x.1 k) then [x] else []))
theorem put_len (k : KE) (v : Int) (a : Bool × List OpE) (x : OpE) (i : Nat) (h : a.2.length ≤ i + (bif a.1 then 1 else 0)) : (putG k v a x).2.length ≤ i + 1 + (bif (putG k v a x).1 then 1 else 0) := by
  obtain ⟨a1, a2⟩ := a
  unfold putG
  simp only []
  cases a1 <;> cases lessB x.1 k <;> cases eqE kKey x.1 k <;> simp at h ⊢ <;> omega
theorem refPutT (l : List OpE) (k : KE) (v : Int) (hl : l.length < 1000000) : ∃ r, pledgeref05_Put l k v = some r ∧ r.length ≤ l.length + 1 := by
  unfold pledgeref05_Put
  have := loop_walk (step := pledgeref05_Put.l1) l (fun i (a : Bool × List OpE) => ((l, (v, ((), ((), (a.1, (i : Int)))))), (k, (a.2, ())))) (X := (Int × Unit × Unit × Bool) × KE × List OpE × Unit) (fun _ x a => .inl (putG k v a x)) (fun a => ((v, ((), ((), a.1))), (k, (a.2, ())))) (fun i a => a.2.length ≤ i + (bif a.1 then 1 else 0)) (false, []) (by omega) (by simp) (fun i x a hx hi => by
    have hi2 := get_lt hx
    have hi3 : a.2.length ≤ i + 1 := by cases h : a.1 <;> rw [h] at hi <;> simp at hi <;> omega
    constructor
    · unfold pledgeref05_Put.l1 putG
      simp only [dec_t (show (i : Int) < (l.length : Int) by omega), cond_true]
      rw [nthK_get hx, less_valB, Option.bind_some]
      cases a.1 with
      | true =>
        simp only [Bool.not_true, cond_false, Option.bind_some, Bool.false_and, Bool.true_or]
        rw [nthK_get hx]
        cases eqE kKey x.1 k with
        | true => simp only [Bool.not_true, cond_false, List.append_nil]; rw [succ_i64 (by omega)]
        | false => simp only [Bool.not_false, cond_true]; rw [nthK_get hx, room_ok (by simp; omega), succ_i64 (by omega)]
      | false =>
        simp only [Bool.not_false, cond_true, Bool.true_and, Bool.false_or]
        cases lessB x.1 k with
        | true =>
          simp only [Bool.not_true, cond_false, Option.bind_some]
          rw [nthK_get hx]
          cases eqE kKey x.1 k with
          | true => simp only [Bool.not_true, cond_false, List.append_nil]; rw [succ_i64 (by omega)]
          | false => simp only [Bool.not_false, cond_true]; rw [nthK_get hx, room_ok (by simp; omega), succ_i64 (by omega)]
        | false =>
          simp only [Bool.not_false, cond_true]
          rw [room_ok (by simp; omega)]
          simp only [Option.bind_some]
          rw [nthK_get hx]
          cases eqE kKey x.1 k with
          | true => simp only [Bool.not_true, cond_false, List.append_nil]; rw [succ_i64 (by omega)]
          | false => simp only [Bool.not_false, cond_true]; rw [nthK_get hx, room_ok (by simp; omega), succ_i64 (by omega)]
    · intro b hb
      cases hb
      exact put_len k v a x i hi) (fun _ _ => by
    unfold pledgeref05_Put.l1
    simp only [dec_f (show ¬ (l.length : Int) < (l.length : Int) by omega), cond_false])
  rw [show (((0 : Nat) : Int)) = 0 from rfl] at this
  have hw : ∀ (l : List OpE) (i : Nat) (a : Bool × List OpE), a.2.length ≤ i + (bif a.1 then 1 else 0) → ∃ b : Bool × List OpE, walkL (X := (Int × Unit × Unit × Bool) × KE × List OpE × Unit) (fun _ x a => .inl (putG k v a x)) (fun a => ((v, ((), ((), a.1))), (k, (a.2, ())))) i l a = ((v, ((), ((), b.1))), (k, (b.2, ()))) ∧ b.2.length ≤ i + l.length + (bif b.1 then 1 else 0) := by
    intro l
    induction l with
    | nil => intro i a ha; exact ⟨a, rfl, by simpa using ha⟩
    | cons x l ih =>
      intro i a ha
      obtain ⟨b, h1, h2⟩ := ih (i + 1) (putG k v a x) (put_len k v a x i ha)
      exact ⟨b, h1, by rw [List.length_cons]; omega⟩
  obtain ⟨b, h1, h2⟩ := hw l 0 (false, []) (by simp)
  rw [h1] at this
  rw [this, Option.bind_some]
  simp only []
  cases hb : b.1 with
  | true => rw [hb] at h2; exact ⟨_, rfl, by simp at h2; omega⟩
  | false =>
    rw [hb] at h2
    simp only [cond_false] at h2
    simp only [Bool.not_false, cond_true]
    rw [room_ok (by simp; omega)]
    exact ⟨_, rfl, by simp; omega⟩

/-! ### A table behind some acts -/
abbrev ActE := KE × Int × Bool × Unit
def getD05 (l : List OpE) (k : KE) : Int × Bool × Unit := match pledgeref05_Get l k with | some r => r | none => (0, (false, ()))
def delD05 (l : List OpE) (k : KE) : List OpE := match pledgeref05_Del l k with | some r => r | none => []
def putD05 (l : List OpE) (k : KE) (v : Int) : List OpE := match pledgeref05_Put l k v with | some r => r | none => []
theorem getD05_val (l : List OpE) (k : KE) (hl : l.length < 1000000) : pledgeref05_Get l k = some (getD05 l k) := by
  obtain ⟨r, h⟩ := refGetT l k hl
  unfold getD05; rw [h]
theorem delD05_val (l : List OpE) (k : KE) (hl : l.length < 1000000) : pledgeref05_Del l k = some (delD05 l k) ∧ (delD05 l k).length ≤ l.length := by
  obtain ⟨r, h, h2⟩ := refDelT l k hl
  unfold delD05; rw [h]; exact ⟨rfl, h2⟩
theorem putD05_val (l : List OpE) (k : KE) (v : Int) (hl : l.length < 1000000) : pledgeref05_Put l k v = some (putD05 l k v) ∧ (putD05 l k v).length ≤ l.length + 1 := by
  obtain ⟨r, h, h2⟩ := refPutT l k v hl
  unfold putD05; rw [h]; exact ⟨rfl, h2⟩
abbrev MkA := TM × List OpE × Bool
def mkF (a : MkA) (x : ActE) : MkA := bif x.2.2.1 then ((bif hT a.1 x.1 then dT a.1 x.1 else a.1), (delD05 a.2.1 x.1, (bif hT a.1 x.1 == (getD05 a.2.1 x.1).2.1 then a.2.2 else false))) else (pT a.1 x.1 x.2.1, (putD05 a.2.1 x.1 x.2.1, a.2.2))
def mkT (l : List ActE) : MkA := (l.take 60).foldl mkF ([], ([], true))
theorem mk_ok {a : MkA} {i : Nat} (x : ActE) (h : TabOk a.1 i ∧ a.2.1.length ≤ i) (hi : i < 1000) : TabOk (mkF a x).1 (i + 1) ∧ (mkF a x).2.1.length ≤ i + 1 := by
  unfold mkF
  cases x.2.2.1 with
  | true =>
    simp only [cond_true]
    refine ⟨?_, by have := (delD05_val a.2.1 x.1 (by omega)).2; omega⟩
    cases hT a.1 x.1 with
    | true => exact h.1.del x.1
    | false => exact ⟨h.1.nd, by have := h.1.len; show a.1.length ≤ i + 1; omega⟩
  | false => exact ⟨h.1.put x.1 x.2.1, by have := (putD05_val a.2.1 x.1 x.2.1 (by omega)).2; show (putD05 a.2.1 x.1 x.2.1).length ≤ i + 1; omega⟩
theorem walk_foldT {α A X : Type} (g : A → α → A) (fin : A → X) : ∀ (l : List α) (i : Nat) (acc : A), walkL (fun _ x a => .inl (g a x)) fin i l acc = fin (l.foldl g acc)
  | [], _, _ => rfl
  | x :: l, i, acc => by rw [walkL]; exact walk_foldT g fin l (i + 1) (g acc x)
theorem mkT_ok (l : List ActE) : TabOk (mkT l).1 60 := by
  have : ∀ (l : List ActE) (i : Nat) (a : MkA), i + l.length ≤ 60 → TabOk a.1 i ∧ a.2.1.length ≤ i → TabOk (l.foldl mkF a).1 (i + l.length) := by
    intro l
    induction l with
    | nil => intro i a _ h; exact h.1
    | cons x l ih =>
      intro i a hi h
      rw [List.length_cons] at hi
      have := ih (i + 1) (mkF a x) (by omega) (mk_ok x h (by omega))
      rw [List.length_cons, show i + (l.length + 1) = i + 1 + l.length by omega]
      exact this
  have h := this (l.take 60) 0 ([], ([], true)) (by rw [List.length_take]; omega) ⟨⟨List.nodup_nil, Nat.le_refl _⟩, Nat.le_refl _⟩
  exact ⟨h.nd, by have := h.len; rw [List.length_take] at this; unfold mkT; omega⟩
theorem made_val (l : List ActE) (hl : l.length ≤ 9223372036854775807) : pledgelaw05_made l = some (((), ((mkT l).2.1, ((mkT l).2.2, ()))), (((), ()), ((mkT l).1, ()))) := by
  unfold pledgelaw05_made
  have ht : (l.take 60).length ≤ 60 ∧ (l.take 60).length ≤ l.length := by rw [List.length_take]; omega
  have hend : (l.take 60).length = l.length ∨ (l.take 60).length = 60 := by rw [List.length_take]; omega
  have := loop_walk (step := pledgelaw05_made.l1) (l.take 60) (fun i (a : MkA) => ((l, ((), (a.2.1, (a.2.2, (i : Int))))), (((), ()), (a.1, ())))) (X := (Unit × List OpE × Bool) × (Unit × Unit) × TM × Unit) (fun _ x a => .inl (mkF a x)) (fun a => (((), (a.2.1, a.2.2)), (((), ()), (a.1, ())))) (fun i a => TabOk a.1 i ∧ a.2.1.length ≤ i) ([], ([], true)) (by omega) ⟨⟨List.nodup_nil, Nat.le_refl _⟩, Nat.le_refl _⟩ (fun i x a hx ha => by
    have hi := get_lt hx
    have hx' : l[i]? = some x := by rwa [List.getElem?_take_of_lt (by omega)] at hx
    have hrl : a.2.1.length < 1000000 := by omega
    refine ⟨?_, fun _ q => by cases q; exact mk_ok x ha (by omega)⟩
    unfold pledgelaw05_made.l1 mkF
    simp only [dec_t (show (i : Int) < (l.length : Int) by omega), dec_t (show (i : Int) < 60 by omega), cond_true]
    rw [nthK_get hx', getD05_val _ _ hrl, Option.bind_some, nthK_get hx']
    cases x.2.2.1 with
    | true =>
      simp only [cond_true]
      rw [nthK_get hx']
      have hdel : table_Table_int64_Del () x.1 ((), ()) a.1 = some (hT a.1 x.1, (((), ()), ((bif hT a.1 x.1 then dT a.1 x.1 else a.1), ()))) := by
        show (bif hT a.1 x.1 then some (hT a.1 x.1, (((), ()), (dT a.1 x.1, ()))) else some (hT a.1 x.1, (((), ()), (a.1, ()))) : Option (Bool × (Unit × Unit) × TM × Unit)) = _
        cases hT a.1 x.1 <;> rfl
      refine (congrArg (fun o => Option.bind o _) hdel).trans ?_
      simp only [Option.bind_some]
      cases hT a.1 x.1 == (getD05 a.2.1 x.1).2.1 with
      | true => simp only [cond_true]; rw [nthK_get hx', (delD05_val _ _ hrl).1, Option.bind_some, succ_i64 (by omega)]
      | false => simp only [cond_false]; rw [nthK_get hx', (delD05_val _ _ hrl).1, Option.bind_some, succ_i64 (by omega)]
    | false =>
      simp only [cond_false]
      rw [nthK_get hx', nthK_get hx']
      have hput : table_Table_int64_Put () x.1 x.2.1 ((), ()) a.1 = some ((), (((), ()), (pT a.1 x.1 x.2.1, ()))) := rfl
      refine (congrArg (fun o => Option.bind o _) hput).trans ?_
      simp only [Option.bind_some]
      rw [nthK_get hx', nthK_get hx', (putD05_val _ _ _ hrl).1, Option.bind_some, succ_i64 (by omega)]) (fun a _ => by
    unfold pledgelaw05_made.l1
    rcases hend with e | e
    · rw [e]
      simp only [dec_f (show ¬ (l.length : Int) < (l.length : Int) by omega), cond_false]
    · rw [e]
      by_cases c : ((60 : Nat) : Int) < (l.length : Int)
      · simp only [dec_t c, cond_true, dec_f (show ¬ ((60 : Nat) : Int) < 60 by omega), cond_false]
      · simp only [dec_f c, cond_false])
  rw [show (((0 : Nat) : Int)) = 0 from rfl, walk_foldT mkF] at this
  show (Option.bind (some ((), (((), ()), (([] : TM), ())))) _) = _
  rw [Option.bind_some]
  refine (congrArg (fun o => Option.bind o _) this).trans ?_
  rfl
theorem works05 : pledgelaw05_works = some true := by
  have hs : sortT [((4, (1, (0, ()))), 5), ((1, (0, (0, ()))), 6)] = [(1, (0, (0, ()))), (4, (1, (0, ())))] := by
    refine sorted_unique (sort_rises (by decide)) ?_ fun k => ?_
    · refine List.pairwise_cons.2 ⟨fun x hx => ?_, List.pairwise_singleton _ _⟩
      rw [List.mem_singleton.1 hx]; rfl
    · unfold sortT
      rw [(List.mergeSort_perm _ _).mem_iff]
      show k ∈ [((4, (1, (0, ()))) : KE), (1, (0, (0, ())))] ↔ _
      simp [or_comm]
  have hk := keysT_val [((4, (1, (0, ()))), 5), ((1, (0, (0, ()))), 6)] (by simp)
  rw [hs] at hk
  have hm : (pT (pT [] (4, (1, (0, ()))) 5) (1, (0, (0, ()))) 6 : TM) = [((4, (1, (0, ()))), 5), ((1, (0, (0, ()))), 6)] := rfl
  rw [← hm] at hk
  unfold pledgelaw05_works
  have e1 : table_New_int64 = some ((), (((), ()), (([] : TM), ()))) := rfl
  have e2 : table_Table_int64_Put () (4, (1, (0, ()))) 5 ((), ()) ([] : TM) = some ((), (((), ()), (pT [] (4, (1, (0, ()))) 5, ()))) := rfl
  have e3 : table_Table_int64_Put () (1, (0, (0, ()))) 6 ((), ()) (pT [] (4, (1, (0, ()))) 5) = some ((), (((), ()), (pT (pT [] (4, (1, (0, ()))) 5) (1, (0, (0, ()))) 6, ()))) := rfl
  refine (congrArg (fun o => Option.bind o _) e1).trans ?_
  simp only [Option.bind_some]
  refine (congrArg (fun o => Option.bind o _) e2).trans ?_
  simp only [Option.bind_some]
  refine (congrArg (fun o => Option.bind o _) e3).trans ?_
  simp only [Option.bind_some]
  refine (congrArg (fun o => Option.bind o _) hk).trans ?_
  simp only [Option.bind_some]
  rfl

theorem TableRises (x0 : List ActE) (hx0 : WfE (.slice kAct) x0) : pledgelaw05_TableRises x0 = some true := by
  have hl : x0.length ≤ 9223372036854775807 := by have := hx0.1; have h2 : List.length x0 ≤ maxLen := this; unfold maxLen at h2; omega
  have hok := mkT_ok x0
  have hlen := hok.len
  unfold pledgelaw05_TableRises
  rw [made_val x0 hl, Option.bind_some]
  generalize (mkT x0).1 = m at *
  refine (congrArg (fun o => Option.bind o _) (keysT_val m (by omega))).trans ?_
  simp only [Option.bind_some]
  have hsl := sortT_len m
  have hrise := List.pairwise_iff_getElem.1 (sort_rises hok.nd)
  have hmem : ∀ k ∈ sortT m, hT m k = true := fun k hk => by
    rw [hT_val]
    exact dec_t (((List.mergeSort_perm _ _).mem_iff).1 hk)
  have hloop := loop_walk (step := pledgelaw05_TableRises.l1) (sortT m) (fun i (_ : Unit) => (((), (sortT m, (i : Int))), (((), ()), (m, ())))) (X := ((Unit × List KE) × (Unit × Unit) × TM × Unit) ⊕ Bool) (fun _ _ _ => .inl ()) (fun _ => .inl (((), sortT m), (((), ()), (m, ())))) (fun _ _ => True) () (by omega) trivial (fun i k _ hx _ => by
    have hi := get_lt hx
    refine ⟨?_, fun _ _ => trivial⟩
    unfold pledgelaw05_TableRises.l1
    simp only [dec_t (show (i : Int) < ((sortT m).length : Int) by omega), cond_true]
    rw [nthK_get hx]
    have hget : table_Table_int64_Get () k ((), ()) m = some ((gT m k, (hT m k, ())), (((), ()), (m, ()))) := rfl
    refine (congrArg (fun o => Option.bind o _) hget).trans ?_
    simp only [Option.bind_some]
    rw [hmem k (get_mem hx)]
    simp only [Bool.not_true, cond_false]
    cases i with
    | zero =>
      rw [dec_f (show ¬ ((0 : Nat) : Int) > 0 by omega)]; rfl
    | succ i =>
      have hprev : (sortT m)[i]? = some (sortT m)[i] := List.getElem?_eq_getElem (by omega)
      have hthis : (sortT m)[i + 1]? = some (sortT m)[i + 1] := List.getElem?_eq_getElem hi
      rw [hthis] at hx
      cases hx
      have hlt := hrise i (i + 1) (by rw [show ((keysT m).mergeSort (leOf cmp3)) = sortT m from rfl]; omega) hi (by omega)
      have hlt : ltOf cmp3 (sortT m)[i] (sortT m)[i + 1] = true := hlt
      have hc : ¬ cmp3 (sortT m)[i] (sortT m)[i + 1] ≥ 0 := by
        unfold ltOf at hlt
        have : cmp3 (sortT m)[i] (sortT m)[i + 1] < 0 := by simpa using hlt
        omega
      rw [dec_t (show ((i + 1 : Nat) : Int) > 0 by omega)]
      simp only [cond_true]
      rw [pred_i64 (by omega), nthK_get hprev, nthK_get hthis, table_Table_int64_Keys.hcf, Option.bind_some, dec_f hc]
      simp only [cond_false]
      rw [succ_i64 (by omega)]) (fun _ _ => by
    unfold pledgelaw05_TableRises.l1
    simp only [dec_f (show ¬ ((sortT m).length : Int) < ((sortT m).length : Int) by omega), cond_false])
  rw [show (((0 : Nat) : Int)) = 0 from rfl, walk_through] at hloop
  refine (congrArg (fun o => Option.bind o _) hloop).trans ?_
  simp only [Option.bind_some]
  have hlenv : table_Table_int64_Len () ((), ()) m = some ((m.length : Int), (((), ()), (m, ()))) := rfl
  refine (congrArg (fun o => Option.bind o _) hlenv).trans ?_
  simp only [Option.bind_some]
  rw [hsl, beq_self_eq_true, works05]; rfl
end Go.Proofs.Pure
