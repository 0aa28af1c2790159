/- Each addition is undone once. -/
import Derived.Test.YtnmpidmmhmphkaaPLib
import Derived.Test.YtnmpidmmhmphkaaFnJnu
set_option linter.unusedVariables false
set_option maxRecDepth 100000
set_option linter.unusedSimpArgs false

/- A journal with one open transaction: what each record makes of it. -/
namespace Go.Proofs.Pure
open Go.Proofs.D Go.Proofs.F

abbrev Ke := Int × Int × Int × Unit
abbrev OpE := Ke × Int × Unit
abbrev TxE := Int × Int × Int × Bool × Bool × List OpE × Int × Int × Unit
abbrev PrE := Int × Int × Int × List (Int × Int × Unit) × List (Int × Int × Int × Int × Unit) × List (Int × Int × Unit) × Int × Int × Int × Int × Unit
abbrev RcE := Int × Int × Int × Int × Bool × Ke × Int × Int × PrE × Unit
abbrev JnE := List (Int × TxE)

theorem works19 : pledgelaw19_works = some true := by kernel_rfl
theorem some_bif {α : Type} {c : Bool} {x y : Option α} (hx : ∃ r, x = some r) (hy : ∃ r, y = some r) : ∃ r, (bif c then x else y) = some r := by cases c; exact hy; exact hx
theorem some_bind {α β : Type} {o : Option α} {f : α → Option β} (ho : ∃ a, o = some a) (hf : ∀ a, ∃ r, f a = some r) : ∃ r, o.bind f = some r := by
  obtain ⟨a, ha⟩ := ho; obtain ⟨r, hr⟩ := hf a; exact ⟨r, by rw [ha]; exact hr⟩
theorem bind_of {α β : Type} {o : Option α} {x : α} {f : α → Option β} (h : o = some x) : o.bind f = f x := by rw [h]; rfl

/-! ### Records -/
def prZ : PrE := (0, (0, (0, ([], ([], ([], (0, (0, (0, (0, ()))))))))))
def keZ : Ke := (0, (0, (0, ())))
/-- A record of transaction n. -/
def recO (c n : Int) (k : Ke) (d : Int) : RcE := (c, (0, (n, (0, (false, (k, (d, (0, (prZ, ())))))))))

theorem key_some (k : Ke) : ∃ b, key_Good 4 4 k = some b := by
  unfold key_Good key_fine key_both
  repeat (first | exact ⟨_, rfl⟩ | (refine some_bif ?_ ?_) | (refine some_bind ?_ fun _ => ?_))
theorem eqKe_refl (k : Ke) : eqE kKey k k = true := by
  have : eqE kKey k k = ((k.1 == k.1) && ((k.2.1 == k.2.1) && ((k.2.2.1 == k.2.2.1) && true))) := rfl
  rw [this]; simp
theorem eqOp_refl (o : OpE) : eqE kOp o o = true := by
  have : eqE kOp o o = (eqE kKey o.1 o.1 && ((o.2.1 == o.2.1) && true)) := rfl
  rw [this, eqKe_refl]; simp

theorem same_refl3 (n : Int) (k : Ke) (d : Int) : rec_Same (recO 3 n k d) (recO 3 n k d) = some true := by
  have : rec_Same (recO 3 n k d) (recO 3 n k d) = bif n == n then (bif eqE kKey k k then (bif d == d then some true else some false) else some false) else some false := by kernel_rfl
  rw [this, eqKe_refl]; simp
theorem same_refl6 (n : Int) (k : Ke) (d : Int) : rec_Same (recO 6 n k d) (recO 6 n k d) = some true := by
  have : rec_Same (recO 6 n k d) (recO 6 n k d) = bif n == n then (bif eqE kKey k k then (bif d == d then some true else some false) else some false) else some false := by kernel_rfl
  rw [this, eqKe_refl]; simp
theorem own3 (n : Int) (k : Ke) (d : Int) : rec_own (recO 3 n k d) = bif n != 0 then ((key_Good 4 4 k).bind fun r => bif r then bif d != 0 then some (recO 3 n k d, ((d != (-9223372036854775808)), ())) else some (recO 3 n k d, (false, ())) else some (recO 3 n k d, (false, ()))) else some (recO 3 n k d, (false, ())) := by kernel_rfl
theorem own6 (n : Int) (k : Ke) (d : Int) : rec_own (recO 6 n k d) = bif n != 0 then ((key_Good 4 4 k).bind fun r => bif r then bif d != 0 then some (recO 6 n k d, ((d != (-9223372036854775808)), ())) else some (recO 6 n k d, (false, ())) else some (recO 6 n k d, (false, ()))) else some (recO 6 n k d, (false, ())) := by kernel_rfl

def okD (b : Bool) (n d : Int) : Bool := (n != 0) && (b && ((d != 0) && (d != (-9223372036854775808))))
theorem good3 {n : Int} {k : Ke} {d : Int} {b : Bool} (h : key_Good 4 4 k = some b) : rec_Good (recO 3 n k d) = some (okD b n d) := by
  unfold rec_Good okD
  rw [own3, h]
  cases (n != 0)
  · rfl
  cases b
  · rfl
  cases (d != 0)
  · rfl
  cases (d != (-9223372036854775808))
  · rfl
  · show ((rec_Same (recO 3 n k d) (recO 3 n k d)).bind fun r3 => some r3) = some true
    rw [same_refl3]; rfl
theorem good6 {n : Int} {k : Ke} {d : Int} {b : Bool} (h : key_Good 4 4 k = some b) : rec_Good (recO 6 n k d) = some (okD b n d) := by
  unfold rec_Good okD
  rw [own6, h]
  cases (n != 0)
  · rfl
  cases b
  · rfl
  cases (d != 0)
  · rfl
  cases (d != (-9223372036854775808))
  · rfl
  · show ((rec_Same (recO 6 n k d) (recO 6 n k d)).bind fun r3 => some r3) = some true
    rw [same_refl6]; rfl
theorem size3 {k : Ke} {d : Int} (h : rec_Good (recO 3 5 k d) = some true) : rec_Size (recO 3 5 k d) = some 22 := by
  unfold rec_Size rec_Encode
  rw [h]
  (show _ = _; kernel_rfl)
theorem size6 {k : Ke} {d : Int} (h : rec_Good (recO 6 5 k d) = some true) : rec_Size (recO 6 5 k d) = some 22 := by
  unfold rec_Size rec_Encode
  rw [h]
  (show _ = _; kernel_rfl)
theorem bare_good {c : Int} (h : c = 4 ∨ c = 5 ∨ c = 7) : rec_Good (recO c 5 keZ 0) = some true := by
  rcases h with rfl | rfl | rfl <;> (show _ = _; kernel_rfl)
theorem bare_size {c : Int} (h : c = 4 ∨ c = 5 ∨ c = 7) : rec_Size (recO c 5 keZ 0) = some 11 := by
  rcases h with rfl | rfl | rfl <;> (show _ = _; kernel_rfl)
end Go.Proofs.Pure

/- A journal with one open transaction: what each record makes of it. -/
namespace Go.Proofs.Pure
open Go.Proofs.D Go.Proofs.F

def tx (n saga step : Int) (comp dead : Bool) (done : List OpE) (first size : Int) : TxE := (n, (saga, (step, (comp, (dead, (done, (first, (size, ()))))))))
/-- The parts of a transaction but for its additions. -/
def txU (n saga step : Int) (comp dead : Bool) (first size : Int) : Int × Int × Int × Bool × Bool × Unit × Int × Int × Unit := (n, (saga, (step, (comp, (dead, ((), (first, (size, ()))))))))
def jOf (l : JnE) : (Unit × Unit) × JnE × Unit := (((), ()), (l, ()))

section
variable {n saga step first size : Int} {comp dead : Bool} {done : List OpE}
theorem eqU (n : Int) : eqE (.int .u32) n n = true := by
  have : eqE (.int .u32) n n = (n == n) := rfl
  rw [this]; simp
theorem has_one (T : TxE) : hasM (.int .u32) kTxn ([(n, T)] : JnE) n = true := by
  have : hasM (.int .u32) kTxn ([(n, T)] : JnE) n = (eqE (.int .u32) n n || false) := rfl
  rw [this, eqU]; rfl
theorem get_one (T : TxE) : getM (.int .u32) kTxn ([(n, T)] : JnE) n = T := by
  have : getM (.int .u32) kTxn ([(n, T)] : JnE) n = bif eqE (.int .u32) n n then T else zeroE kTxn := rfl
  rw [this, eqU]; rfl
theorem put_one (T U : TxE) : (putM (.int .u32) kTxn ([(n, T)] : JnE) n U : JnE) = [(n, U)] := by
  have : (putM (.int .u32) kTxn ([(n, T)] : JnE) n U : JnE) = bif eqE (.int .u32) n n then [(n, U)] else [(n, T), (n, U)] := rfl
  rw [this, eqU]; rfl
theorem del_one (T : TxE) : (delM (.int .u32) kTxn ([(n, T)] : JnE) n : JnE) = [] := by
  have : (delM (.int .u32) kTxn ([(n, T)] : JnE) n : JnE) = bif eqE (.int .u32) n n then [] else [(n, T)] := rfl
  rw [this, eqU]; rfl
theorem getJ (h : done.length ≤ 4294967296) : journal_Journal_Get () n ((), ()) [(n, tx n saga step comp dead done first size)] = some ((txU n saga step comp dead first size, (true, ())), (((), ()), ([(n, tx n saga step comp dead done first size)], (done, ())))) := by
  unfold journal_Journal_Get
  rw [has_one, get_one]
  show (Option.bind (bif Nat.ble done.length 4294967296 then some _ else none) _) = _
  rw [Nat.ble_eq_true_of_le h]; rfl

theorem apply_add {at_ : Int} {k : Ke} {d s : Int} (h : done.length < 6) (hg : rec_Good (recO 3 n k d) = some true) (hs : rec_Size (recO 3 n k d) = some s) :
    journal_Journal_Apply () at_ (recO 3 n k d) ((), ()) [(n, tx n saga step comp false done first size)] = some (0, jOf [(n, tx n saga step comp false (done ++ [(k, (d, ()))]) first (IntKind.i64.wrap (size + s)))]) := by
  unfold journal_Journal_Apply
  rw [hg]
  refine (bind_of (getJ (by omega))).trans ?_
  refine (bind_of hs).trans ?_
  show (Option.bind (bif decide ((done.length : Int) ≥ 6) then _ else room (done.length + [(k, (d, ()))].length) (some _)) _) = _
  rw [dec_f (by omega), room_ok (by simp; omega)]
  show some (0, (((), ()), (putM (.int .u32) kTxn ([(n, tx n saga step comp false done first size)] : JnE) n (tx n saga step comp false (done ++ [(k, (d, ()))]) first (IntKind.i64.wrap (size + s))), ()))) = _
  rw [put_one]; rfl
theorem apply_addDead {at_ : Int} {k : Ke} {d s : Int} (h : done.length ≤ 4294967296) (hg : rec_Good (recO 3 n k d) = some true) (hs : rec_Size (recO 3 n k d) = some s) :
    journal_Journal_Apply () at_ (recO 3 n k d) ((), ()) [(n, tx n saga step comp true done first size)] = some (12, jOf [(n, tx n saga step comp true done first size)]) := by
  unfold journal_Journal_Apply
  rw [hg]
  refine (bind_of (getJ h)).trans ?_
  exact (bind_of hs).trans rfl
theorem apply_abort {at_ : Int} {k : Ke} {d s : Int} (h : done.length ≤ 4294967296) (hg : rec_Good (recO 5 n k d) = some true) (hs : rec_Size (recO 5 n k d) = some s) :
    journal_Journal_Apply () at_ (recO 5 n k d) ((), ()) [(n, tx n saga step comp false done first size)] = some (0, jOf [(n, tx n saga step comp true done first (IntKind.i64.wrap (size + s)))]) := by
  unfold journal_Journal_Apply
  rw [hg]
  refine (bind_of (getJ h)).trans ?_
  refine (bind_of hs).trans ?_
  show some (0, (((), ()), (putM (.int .u32) kTxn ([(n, tx n saga step comp false done first size)] : JnE) n (tx n saga step comp true done first (IntKind.i64.wrap (size + s))), ()))) = _
  rw [put_one]; rfl
theorem last_val {l : List OpE} {k : Ke} {d : Int} (hl : l.length < 1000) (hd : d ≠ -9223372036854775808) : journal_Last (tx n saga step comp dead (l ++ [(k, (d, ()))]) first size) = some ((k, (IntKind.i64.wrap (0 - d), ())), (true, ())) := by
  have hlen : (l ++ [(k, (d, ()))]).length = l.length + 1 := by simp
  have hget : (l ++ [(k, (d, ()))])[l.length]? = some (k, (d, ())) := by simp
  unfold journal_Last
  show (bif (((l ++ [(k, (d, ()))]).length : Int) == 0) then _ else nthK (l ++ [(k, (d, ()))]) (IntKind.i64.wrap (((l ++ [(k, (d, ()))]).length : Int) - 1)) _) = _
  rw [hlen, pred_i64 (by omega), show (((l.length + 1 : Nat) : Int) == 0) = false by simp; omega, cond_false, nthK_get hget]
  show (bif (d == -9223372036854775808) then _ else nthK (l ++ [(k, (d, ()))]) (IntKind.i64.wrap (((l ++ [(k, (d, ()))]).length : Int) - 1)) _) = _
  rw [hlen, pred_i64 (by omega), show (d == -9223372036854775808) = false by simpa using hd, cond_false, nthK_get hget]
theorem apply_undo {at_ : Int} {l : List OpE} {k : Ke} {d s : Int} (hl : l.length < 1000) (hd : d ≠ -9223372036854775808) (hg : rec_Good (recO 6 n k (IntKind.i64.wrap (0 - d))) = some true) (hs : rec_Size (recO 6 n k (IntKind.i64.wrap (0 - d))) = some s) :
    journal_Journal_Apply () at_ (recO 6 n k (IntKind.i64.wrap (0 - d))) ((), ()) [(n, tx n saga step comp dead (l ++ [(k, (d, ()))]) first size)] = some (0, jOf [(n, tx n saga step comp true l first (IntKind.i64.wrap (size + s)))]) := by
  have hlen : (l ++ [(k, (d, ()))]).length = l.length + 1 := by simp
  unfold journal_Journal_Apply
  rw [hg]
  refine (bind_of (getJ (by omega))).trans ?_
  refine (bind_of hs).trans ?_
  show (Option.bind ((journal_Last (tx n saga step comp dead (l ++ [(k, (d, ()))]) first (IntKind.i64.wrap (size + s)))).bind _) _) = _
  rw [last_val hl hd]
  show (Option.bind (bif !(eqE kOp ((k, (IntKind.i64.wrap (0 - d), ())) : OpE) ((k, (IntKind.i64.wrap (0 - d), ())) : OpE)) then _ else chk (decide (0 ≤ (IntKind.i64.wrap (((l ++ [(k, (d, ()))]).length : Int) - 1))) && decide ((IntKind.i64.wrap (((l ++ [(k, (d, ()))]).length : Int) - 1)) ≤ ((l ++ [(k, (d, ()))]).length : Int))) (some (Sum.inl (((), ()), (((), ()), (([(n, tx n saga step comp dead (l ++ [(k, (d, ()))]) first size)] : JnE), (tx n saga step comp true (((l ++ [(k, (d, ()))]).take (IntKind.i64.wrap (((l ++ [(k, (d, ()))]).length : Int) - 1) : Int).toNat).drop 0) first (IntKind.i64.wrap (size + s)), ()))))))) _) = _
  rw [eqOp_refl, hlen, pred_i64 (by omega), chk_true (by simp; omega), Int.toNat_natCast, List.take_left' rfl]
  show some (0, (((), ()), (putM (.int .u32) kTxn ([(n, tx n saga step comp dead (l ++ [(k, (d, ()))]) first size)] : JnE) n (tx n saga step comp true l first (IntKind.i64.wrap (size + s))), ()))) = _
  rw [put_one]; rfl
theorem apply_goneNo {at_ : Int} {k : Ke} {d s : Int} (h : done.length ≤ 4294967296) (h0 : 0 < done.length) (hg : rec_Good (recO 7 n k d) = some true) (hs : rec_Size (recO 7 n k d) = some s) :
    journal_Journal_Apply () at_ (recO 7 n k d) ((), ()) [(n, tx n saga step comp dead done first size)] = some (12, jOf [(n, tx n saga step comp dead done first size)]) := by
  unfold journal_Journal_Apply
  rw [hg]
  refine (bind_of (getJ h)).trans ?_
  refine (bind_of hs).trans ?_
  show (Option.bind (Option.bind (bif decide ((done.length : Int) > 0) then _ else _) _) _) = _
  rw [dec_t (by omega)]; rfl
theorem apply_commitDead {at_ : Int} {k : Ke} {d s : Int} (h : done.length ≤ 4294967296) (hg : rec_Good (recO 4 n k d) = some true) (hs : rec_Size (recO 4 n k d) = some s) :
    journal_Journal_Apply () at_ (recO 4 n k d) ((), ()) [(n, tx n saga step comp true done first size)] = some (12, jOf [(n, tx n saga step comp true done first size)]) := by
  unfold journal_Journal_Apply
  rw [hg]
  refine (bind_of (getJ h)).trans ?_
  exact (bind_of hs).trans rfl
theorem apply_gone {at_ : Int} {k : Ke} {d s : Int} (hg : rec_Good (recO 7 n k d) = some true) (hs : rec_Size (recO 7 n k d) = some s) :
    journal_Journal_Apply () at_ (recO 7 n k d) ((), ()) [(n, tx n saga step comp dead [] first size)] = some (0, jOf []) := by
  unfold journal_Journal_Apply
  rw [hg]
  refine (bind_of (getJ (by simp))).trans ?_
  refine (bind_of hs).trans ?_
  show some (0, (((), ()), (delM (.int .u32) kTxn ([(n, tx n saga step comp dead [] first size)] : JnE) n, ()))) = _
  rw [del_one]; rfl
theorem apply_commit {at_ : Int} {k : Ke} {d s : Int} (h : done.length ≤ 4294967296) (hg : rec_Good (recO 4 n k d) = some true) (hs : rec_Size (recO 4 n k d) = some s) :
    journal_Journal_Apply () at_ (recO 4 n k d) ((), ()) [(n, tx n saga step comp false done first size)] = some (0, jOf []) := by
  unfold journal_Journal_Apply
  rw [hg]
  refine (bind_of (getJ h)).trans ?_
  refine (bind_of hs).trans ?_
  show some (0, (((), ()), (delM (.int .u32) kTxn ([(n, tx n saga step comp false done first size)] : JnE) n, ()))) = _
  rw [del_one]; rfl
end
end Go.Proofs.Pure

/- Each addition is undone once. -/
namespace Go.Proofs.Pure
open Go.Proofs.D Go.Proofs.F

def t5 (dead : Bool) (done : List OpE) (first size : Int) : JnE := [(5, tx 5 2 0 false dead done first size)]
def goodO (o : OpE) : Prop := rec_Good (recO 3 5 o.1 o.2.1) = some true
theorem good_or (o : OpE) : goodO o ∨ rec_Good (recO 3 5 o.1 o.2.1) = some false := by
  obtain ⟨b, hb⟩ := key_some o.1
  unfold goodO
  rw [good3 hb]
  cases okD b 5 o.2.1
  · exact .inr rfl
  · exact .inl rfl
theorem goodO_parts {o : OpE} (h : goodO o) : key_Good 4 4 o.1 = some true ∧ o.2.1 ≠ 0 ∧ o.2.1 ≠ -9223372036854775808 := by
  obtain ⟨b, hb⟩ := key_some o.1
  unfold goodO at h
  rw [good3 hb] at h
  have h : okD b 5 o.2.1 = true := Option.some.inj h
  unfold okD at h
  simp only [Bool.and_eq_true, bne_iff_ne] at h
  obtain ⟨-, h1, h2, h3⟩ := h
  rw [h1] at hb
  exact ⟨hb, h2, h3⟩
theorem good_one {k : Ke} {d : Int} (hk : key_Good 4 4 k = some true) (h0 : d ≠ 0) (h1 : d ≠ -9223372036854775808) : rec_Good (recO 3 5 k d) = some true ∧ rec_Good (recO 6 5 k d) = some true := by
  have : okD true 5 d = true := by unfold okD; simp [h0, h1]
  rw [good3 hk, good6 hk, this]
  exact ⟨rfl, rfl⟩

theorem loop1 (ops : List OpE) (at_ : Int) (died : Bool) (h6 : ops.length ≤ 6) : ∀ (m i : Nat) (size : Int), i + m = ops.length → (∀ o ∈ ops.take i, goodO o) →
    iterL pledgelaw19_JournalUndoes.l1 (m + 1) ((ops, (at_, (died, ((), (i : Int))))), jOf (t5 false (ops.take i) at_ size)) = some (Sum.inr true) ∨
    ((∀ o ∈ ops, goodO o) ∧ ∃ size', iterL pledgelaw19_JournalUndoes.l1 (m + 1) ((ops, (at_, (died, ((), (i : Int))))), jOf (t5 false (ops.take i) at_ size)) = some (Sum.inl ((ops, (at_, (died, ()))), jOf (t5 false ops at_ size'))))
  | 0, i, size, hi, hg => by
    have hi : i = ops.length := by omega
    subst hi
    rw [List.take_length] at hg ⊢
    refine .inr ⟨hg, size, iterL_done ?_⟩
    unfold pledgelaw19_JournalUndoes.l1
    show (bif decide ((ops.length : Int) < (ops.length : Int)) then _ else _) = _
    rw [dec_f (by omega)]; rfl
  | m + 1, i, size, hi, hg => by
    obtain ⟨o, ho⟩ : ∃ o, ops[i]? = some o := ⟨_, List.getElem?_eq_getElem (by omega)⟩
    have htk : ops.take (i + 1) = ops.take i ++ [o] := by rw [List.take_add_one, ho]; rfl
    have hstep : ∀ r, (journal_Journal_Apply () at_ (recO 3 5 o.1 o.2.1) ((), ()) (t5 false (ops.take i) at_ size)) = some r → pledgelaw19_JournalUndoes.l1 ((ops, (at_, (died, ((), (i : Int))))), jOf (t5 false (ops.take i) at_ size)) = bif (r.1 : Int) != 0 then some (Sum.inr (Sum.inr true)) else some (Sum.inl ((ops, (at_, (died, ((), IntKind.i64.wrap ((i : Int) + 1))))), (((), r.2.1.2), (r.2.2.1, ())))) := fun r hr => by
      unfold pledgelaw19_JournalUndoes.l1
      show (bif decide ((i : Int) < (ops.length : Int)) then nthK ops (i : Int) _ else _) = _
      rw [dec_t (by omega), cond_true, nthK_get ho, nthK_get ho, works19]
      exact bind_of hr
    rcases good_or o with hq | hq
    · have := hstep _ (apply_add (by rw [List.length_take]; omega) hq (size3 hq))
      have hs : pledgelaw19_JournalUndoes.l1 ((ops, (at_, (died, ((), (i : Int))))), jOf (t5 false (ops.take i) at_ size)) = some (Sum.inl ((ops, (at_, (died, ((), ((i + 1 : Nat) : Int))))), jOf (t5 false (ops.take (i + 1)) at_ (IntKind.i64.wrap (size + 22))))) := by
        rw [this, htk, ← succ_i64 (by omega)]; rfl
      have ih := loop1 ops at_ died h6 m (i + 1) (IntKind.i64.wrap (size + 22)) (by omega) (fun x hx => by
        rw [htk] at hx
        rcases List.mem_append.1 hx with q | q
        · exact hg x q
        · rw [List.mem_singleton.1 q]; exact hq)
      rw [iterL_next hs]
      exact ih
    · refine .inl (iterL_done ?_)
      have : journal_Journal_Apply () at_ (recO 3 5 o.1 o.2.1) ((), ()) (t5 false (ops.take i) at_ size) = some (1, jOf (t5 false (ops.take i) at_ size)) := by
        unfold journal_Journal_Apply
        rw [hq]; rfl
      rw [hstep _ this]; rfl

theorem loop2 (ops : List OpE) (at_ : Int) (h6 : ops.length ≤ 6) (hg : ∀ o ∈ ops, goodO o) (hr : ∀ o ∈ ops, -9223372036854775808 ≤ o.2.1 ∧ o.2.1 < 9223372036854775808) : ∀ (m : Nat) (dead : Bool) (size : Int), m ≤ ops.length →
    ∃ dead' size', iterL pledgelaw19_JournalUndoes.l2 (m + 1) ((ops, (at_, ((), (m : Int) - 1))), jOf (t5 dead (ops.take m) at_ size)) = some (Sum.inl ((at_, ()), jOf (t5 dead' [] at_ size')))
  | 0, dead, size, hm => ⟨dead, size, iterL_done (by
      unfold pledgelaw19_JournalUndoes.l2
      rfl)⟩
  | m + 1, dead, size, hm => by
    obtain ⟨o, ho⟩ : ∃ o, ops[m]? = some o := ⟨_, List.getElem?_eq_getElem (by omega)⟩
    have htk : ops.take (m + 1) = ops.take m ++ [o] := by rw [List.take_add_one, ho]; rfl
    have hmem : o ∈ ops := List.mem_of_getElem? ho
    obtain ⟨hk, hd0, hd1⟩ := goodO_parts (hg o hmem)
    have hrg := hr o hmem
    have hw : IntKind.i64.wrap (0 - o.2.1) = - o.2.1 := by rw [wrap_i64 (by omega) (by omega)]; omega
    obtain ⟨-, gU⟩ := good_one hk (d := IntKind.i64.wrap (0 - o.2.1)) (by rw [hw]; omega) (by rw [hw]; omega)
    obtain ⟨gA, -⟩ := good_one hk (d := 1) (by decide) (by decide)
    have hlen : (ops.take m).length < 1000 := by rw [List.length_take]; omega
    have a0 : journal_Journal_Get () 5 ((), ()) (t5 dead (ops.take m ++ [o]) at_ size) = some ((txU 5 2 0 false dead at_ size, (true, ())), (((), ()), (t5 dead (ops.take m ++ [o]) at_ size, (ops.take m ++ [o], ())))) := getJ (by simp; omega)
    have a1 : journal_Last (tx 5 2 0 false dead (ops.take m ++ [o]) at_ size) = some ((o.1, (IntKind.i64.wrap (0 - o.2.1), ())), (true, ())) := last_val hlen hd1
    have a2 : journal_Journal_Apply () at_ (recO 7 5 keZ 0) ((), ()) (t5 dead (ops.take m ++ [o]) at_ size) = some (12, jOf (t5 dead (ops.take m ++ [o]) at_ size)) := apply_goneNo (by simp; omega) (by simp) (bare_good (.inr (.inr rfl))) (bare_size (.inr (.inr rfl)))
    have a3 : journal_Journal_Apply () at_ (recO 6 5 o.1 (IntKind.i64.wrap (0 - o.2.1))) ((), ()) (t5 dead (ops.take m ++ [o]) at_ size) = some (0, jOf (t5 true (ops.take m) at_ (IntKind.i64.wrap (size + 22)))) := apply_undo hlen hd1 gU (size6 gU)
    have a4 : journal_Journal_Apply () at_ (recO 3 5 o.1 1) ((), ()) (t5 true (ops.take m) at_ (IntKind.i64.wrap (size + 22))) = some (12, jOf (t5 true (ops.take m) at_ (IntKind.i64.wrap (size + 22)))) := apply_addDead (by omega) gA (size3 gA)
    have a5 : journal_Journal_Apply () at_ (recO 4 5 keZ 0) ((), ()) (t5 true (ops.take m) at_ (IntKind.i64.wrap (size + 22))) = some (12, jOf (t5 true (ops.take m) at_ (IntKind.i64.wrap (size + 22)))) := apply_commitDead (by omega) (bare_good (.inl rfl)) (bare_size (.inl rfl))
    obtain ⟨dead', size', ih⟩ := loop2 ops at_ h6 hg hr m true (IntKind.i64.wrap (size + 22)) (by omega)
    refine ⟨dead', size', ?_⟩
    have hi : ((m + 1 : Nat) : Int) - 1 = (m : Int) := by omega
    have hs : pledgelaw19_JournalUndoes.l2 ((ops, (at_, ((), ((m + 1 : Nat) : Int) - 1))), jOf (t5 dead (ops.take (m + 1)) at_ size)) = some (Sum.inl ((ops, (at_, ((), (m : Int) - 1))), jOf (t5 true (ops.take m) at_ (IntKind.i64.wrap (size + 22))))) := by
      rw [hi, htk]
      unfold pledgelaw19_JournalUndoes.l2
      show (bif decide ((m : Int) ≥ 0) then _ else _) = _
      rw [dec_t (by omega), cond_true]
      refine (bind_of a0).trans ?_
      refine (bind_of a1).trans ?_
      show (nthK ops (m : Int) _) = _
      rw [nthK_get ho]
      show (bif !(eqE kKey o.1 o.1) then _ else nthK ops (m : Int) _) = _
      rw [eqKe_refl, nthK_get ho]
      show (bif (IntKind.i64.wrap (0 - o.2.1) != IntKind.i64.wrap (0 - o.2.1)) then _ else _) = _
      rw [bne_self_eq_false, cond_false]
      refine (bind_of a2).trans ?_
      refine (bind_of a3).trans ?_
      refine (bind_of a4).trans ?_
      refine (bind_of a5).trans ?_
      show some (Sum.inl ((ops, (at_, ((), IntKind.i64.wrap ((m : Int) - 1)))), _)) = _
      rw [wrap_i64 (by omega) (by omega)]
    rw [iterL_next hs]
    exact ih

theorem undoes (ops0 : List OpE) (at_ : Int) (died : Bool) (hop : ∀ o ∈ ops0, -9223372036854775808 ≤ o.2.1 ∧ o.2.1 < 9223372036854775808) : pledgelaw19_JournalUndoes ops0 at_ died = some true := by
  obtain ⟨n, hn⟩ : ∃ n : Nat, n = min 6 ops0.length := ⟨_, rfl⟩
  have hmin : (if 6 < (ops0.length : Int) then 6 else (ops0.length : Int)) = (n : Int) := by split <;> omega
  obtain ⟨ops, hops⟩ : ∃ ops : List OpE, ops = ops0.take n := ⟨_, rfl⟩
  have hl : ops.length = n := by rw [hops, List.length_take]; omega
  have hr : ∀ o ∈ ops, -9223372036854775808 ≤ o.2.1 ∧ o.2.1 < 9223372036854775808 := fun o ho => hop o (by rw [hops] at ho; exact List.mem_of_mem_take ho)
  unfold pledgelaw19_JournalUndoes
  rw [hmin, chk_true (by simp; omega), Int.toNat_natCast]
  have e1 : journal_New [] = some ((), jOf []) := by kernel_rfl
  have e2 : journal_Journal_Apply () at_ (2, (2, (5, (0, (false, ((0, (0, (0, ()))), (0, (0, ((0, (0, (0, ([], ([], ([], (0, (0, (0, (0, ())))))))))), ()))))))))) ((), ()) [] = some (0, jOf (t5 false [] at_ 17)) := by kernel_rfl
  refine (bind_of e1).trans ?_
  refine (bind_of e2).trans ?_
  show ((iterL pledgelaw19_JournalUndoes.l1 loopN ((ops0.take n, (at_, (died, ((), ((0 : Nat) : Int))))), jOf (t5 false (ops.take 0) at_ 17))).bind _) = _
  rw [← hops]
  rcases loop1 ops at_ died (by omega) ops.length 0 17 (by omega) (fun o ho => by simp at ho) with h | ⟨hg, sz, h⟩
  · exact (bind_of (iterL_mono h (by rw [loopN_eq]; omega))).trans rfl
  refine (bind_of (iterL_mono h (by rw [loopN_eq]; omega))).trans ?_
  have hA : ∃ dead sz', (bif died then (journal_Journal_Apply () at_ (5, (0, (5, (0, (false, ((0, (0, (0, ()))), (0, (0, ((0, (0, (0, ([], ([], ([], (0, (0, (0, (0, ())))))))))), ()))))))))) ((), ()) (t5 false ops at_ sz)).bind fun r10 => bif (r10.1 : Int) != 0 then some (Sum.inr false) else some (Sum.inl ((ops, (at_, ())), (((), r10.2.1.2), (r10.2.2.1, ())))) else some (Sum.inl ((ops, (at_, ())), jOf (t5 false ops at_ sz))) : Option (((List OpE × Int × Unit) × (Unit × Unit) × JnE × Unit) ⊕ Bool)) = some (Sum.inl ((ops, (at_, ())), jOf (t5 dead ops at_ sz'))) := by
    cases died
    · exact ⟨false, sz, rfl⟩
    · refine ⟨true, IntKind.i64.wrap (sz + 11), ?_⟩
      have : journal_Journal_Apply () at_ (recO 5 5 keZ 0) ((), ()) (t5 false ops at_ sz) = some (0, jOf (t5 true ops at_ (IntKind.i64.wrap (sz + 11)))) := apply_abort (by omega) (bare_good (.inr (.inl rfl))) (bare_size (.inr (.inl rfl)))
      exact (bind_of this).trans rfl
  obtain ⟨dead, sz', hA⟩ := hA
  refine (bind_of hA).trans ?_
  obtain ⟨dead', sz'', hB⟩ := loop2 ops at_ (by omega) hg hr ops.length dead sz' (Nat.le_refl _)
  rw [List.take_length] at hB
  show ((iterL pledgelaw19_JournalUndoes.l2 loopN ((ops, (at_, ((), IntKind.i64.wrap ((ops.length : Int) - 1)))), jOf (t5 dead ops at_ sz'))).bind _) = _
  rw [wrap_i64 (by omega) (by omega)]
  refine (bind_of (iterL_mono hB (by rw [loopN_eq]; omega))).trans ?_
  have hC : journal_Journal_Apply () at_ (recO 7 5 keZ 0) ((), ()) (t5 dead' [] at_ sz'') = some (0, jOf []) := apply_gone (bare_good (.inr (.inr rfl))) (bare_size (.inr (.inr rfl)))
  refine (bind_of hC).trans ?_
  have hD : journal_Journal_All () ((), ()) [] = some (([] : List TxE), jOf []) := by kernel_rfl
  refine (bind_of hD).trans ?_
  exact (bind_of works19).trans rfl

theorem JournalUndoes (ops0 : El (.slice kOp)) (at_ : El (.int .i64)) (died : El .bool) (h1 : WfE (.slice kOp) ops0) (h2 : WfE (.int .i64) at_) (h3 : WfE .bool died) : pledgelaw19_JournalUndoes ops0 at_ died = some true :=
  undoes ops0 at_ died fun o ho => wf_i64 (h1.2 o ho).2.1
end Go.Proofs.Pure
