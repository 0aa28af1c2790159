/- Operations that touch no memory do what the evaluator says. -/
import Derived.Test.YtmmhjcimijfipaaGreatDCtx
import Derived.WalkKit
import Derived.Laws.BytesArg
set_option linter.unusedVariables false
set_option linter.unusedSimpArgs false
namespace Go.Proofs.D
open Go.RowKit

section
variable {P : Program} {C : Ctx} {s : St} {a : Act} {w : World} {S : Cells} {m : Nat → Option MB} {R : Type} {κ : T → Ups → Option R} {r : R} {o : Oper}

/-- What each lemma says of one operation. -/
def Ok (P : Program) (s : St) (a : Act) (w : World) (S : Cells) (m : Nat → Option MB) (o : Oper) (κ : T → Ups → Option R) (r : R) : Prop :=
  ∃ t ups, κ t ups = some r ∧ Does P o a w (After s a.tmps w S m (makes o.op) (match o.dst with | some d => d | none => 0) t ups)

theorem Ok.pure (hr : Rel s a.tmps w S m) {t : T} {v : Value} (hk : κ t [] = some r) (hv : RepV w S m t v) (hrun : (execOp a.eval o).run P w = .ok (.value v) w) : Ok P s a w S m o κ r :=
  ⟨t, [], hk, fun next Q k => wp_value hrun (k v w (After.pure hr hv))⟩

theorem ok_move (hr : Rel s a.tmps w S m) {x : Operand} (ho : o.op = .move x) (he : evalOp C o s.env s.sto κ = some r) : Ok P s a w S m o κ r := by
  simp only [evalOp, ho] at he
  split at he
  · rename_i t hx
    exact Ok.pure hr he (opnd_ok hr hx) (by simp [execOp, ho])
  · cases he
theorem ok_assign (hr : Rel s a.tmps w S m) {x : Operand} (ho : o.op = .assign x) (he : evalOp C o s.env s.sto κ = some r) : Ok P s a w S m o κ r := by
  simp only [evalOp, ho] at he
  split at he
  · rename_i t hx
    exact Ok.pure hr he (opnd_ok hr hx) (by simp [execOp, ho])
  · cases he
theorem ok_pick (hr : Rel s a.tmps w S m) {c x y : Operand} (ho : o.op = .pick c x y) (he : evalOp C o s.env s.sto κ = some r) : Ok P s a w S m o κ r := by
  simp only [evalOp, ho] at he
  split at he
  · rename_i q hc
    have hb := repV_bool (opnd_ok hr hc)
    cases q with
    | true =>
      simp only at he
      split at he
      · rename_i t hx; exact Ok.pure hr he (opnd_ok hr hx) (by simp [execOp, ho, hb, asBool])
      · cases he
    | false =>
      simp only at he
      split at he
      · rename_i t hx; exact Ok.pure hr he (opnd_ok hr hx) (by simp [execOp, ho, hb, asBool])
      · cases he
  · cases he

/-! ### Numbers -/
theorem eqGuard_int (op : BinOp) (t : TypeId) (x y : Operand) (k k' : IntKind) (p q : Int) : (eqGuard op t x y (.int k p) (.int k' q)).run P w = .ok () w := by
  unfold eqGuard; split <;> simp
theorem eqGuard_bool (op : BinOp) (t : TypeId) (x y : Operand) (p q : Bool) : (eqGuard op t x y (.bool p) (.bool q)).run P w = .ok () w := by
  unfold eqGuard; split <;> simp
theorem eqGuard_str (op : BinOp) (t : TypeId) (x y : Operand) (p q : ByteArray) : (eqGuard op t x y (.string p) (.string q)).run P w = .ok () w := by
  unfold eqGuard; split <;> simp
theorem eqGuard_ptr (op : BinOp) (t : TypeId) (x y : Operand) (p q : Option Addr) : (eqGuard op t x y (.pointer p) (.pointer q)).run P w = .ok () w := by
  unfold eqGuard; split <;> simp
theorem eqGuard_map (op : BinOp) (t : TypeId) (x y : Operand) (p q : Option Nat) : (eqGuard op t x y (.map p) (.map q)).run P w = .ok () w := by
  unfold eqGuard; split <;> simp

theorem arith_ok {op : BinOp} {k : IntKind} {p q : Int} {κ' : T → Option R} (hs : isShift op = false) (h : arith op k p q κ' = some r) :
    ∃ t v, κ' t = some r ∧ (∀ (S : Cells) (m : Nat → Option MB), RepV w S m t v) ∧ ∀ ty, (binOp op ty (.int k p) (.int k q)).run P w = .ok v w := by
  unfold arith at h
  split at h
  · exact ⟨_, _, h, fun _ _ => repV_mkInt _ _, fun _ => by simp [binOp, Op.intArith]⟩
  · exact ⟨_, _, h, fun _ _ => repV_mkInt _ _, fun _ => by simp [binOp, Op.intArith]⟩
  · exact ⟨_, _, h, fun _ _ => repV_mkInt _ _, fun _ => by simp [binOp, Op.intArith]⟩
  · by_cases hq : q = 0
    · simp [chk, hq] at h
    · have : (q != 0) = true := by simp [hq]
      simp only [chk, this, cond_true] at h
      exact ⟨_, _, h, fun _ _ => repV_mkInt _ _, fun _ => by simp [binOp, Op.intDiv, hq]⟩
  · by_cases hq : q = 0
    · simp [chk, hq] at h
    · have : (q != 0) = true := by simp [hq]
      simp only [chk, this, cond_true] at h
      exact ⟨_, _, h, fun _ _ => repV_mkInt _ _, fun _ => by simp [binOp, Op.intDiv, hq]⟩
  · exact ⟨_, _, h, fun _ _ => repV_mkInt _ _, fun _ => by simp [binOp, Op.intBits]⟩
  · exact ⟨_, _, h, fun _ _ => repV_mkInt _ _, fun _ => by simp [binOp, Op.intBits]⟩
  · exact ⟨_, _, h, fun _ _ => repV_mkInt _ _, fun _ => by simp [binOp, Op.intBits]⟩
  · exact ⟨_, _, h, fun _ _ => repV_mkBool _, fun _ => by simp [binOp, Op.intCmp]⟩
  · exact ⟨_, _, h, fun _ _ => repV_mkBool _, fun _ => by simp [binOp, Op.intCmp]⟩
  · exact ⟨_, _, h, fun _ _ => repV_mkBool _, fun _ => by simp [binOp, Op.intCmp]⟩
  · exact ⟨_, _, h, fun _ _ => repV_mkBool _, fun _ => by simp [binOp, Op.intCmp]⟩
  · exact ⟨_, _, h, fun _ _ => repV_mkBool _, fun _ => by simp [binOp, Op.intCmp]⟩
  · exact ⟨_, _, h, fun _ _ => repV_mkBool _, fun _ => by simp [binOp, Op.intCmp]⟩
  · cases h

theorem shiftK_ok {op : BinOp} {k k' : IntKind} {p q : Int} {κ' : T → Option R} (h : shiftK op k p q κ' = some r) :
    ∃ t v, κ' t = some r ∧ (∀ (S : Cells) (m : Nat → Option MB), RepV w S m t v) ∧ ∀ ty, (binOp op ty (.int k p) (.int k' q)).run P w = .ok v w := by
  unfold shiftK at h
  split at h
  · by_cases hq : 0 ≤ q
    · simp only [chk, hq, decide_true, cond_true] at h
      exact ⟨_, _, h, fun _ _ => repV_mkInt _ _, fun _ => by simp [binOp, Op.shift, Int.not_lt.2 hq]⟩
    · simp [chk, hq] at h
  · by_cases hq : 0 ≤ q
    · simp only [chk, hq, decide_true, cond_true] at h
      exact ⟨_, _, h, fun _ _ => repV_mkInt _ _, fun _ => by simp [binOp, Op.shift, Int.not_lt.2 hq]⟩
    · simp [chk, hq] at h
  · cases h

theorem eqlK_ok {op : BinOp} {b : Bool} {κ' : T → Option R} (h : eqlK op b κ' = some r) : (op = .eql ∧ κ' (.val .bool b) = some r) ∨ (op = .neq ∧ κ' (.val .bool (!b)) = some r) := by
  unfold eqlK at h
  split at h
  · exact .inl ⟨rfl, h⟩
  · exact .inr ⟨rfl, h⟩
  · cases h

theorem ok_unOp (hr : Rel s a.tmps w S m) {op : UnOp} {t : TypeId} {x : Operand} (ho : o.op = .unOp op t x) (he : evalOp C o s.env s.sto κ = some r) : Ok P s a w S m o κ r := by
  simp only [evalOp, ho] at he
  split at he
  · rename_i u hx
    have hv := opnd_ok hr hx
    unfold unK at he
    split at he
    · exact Ok.pure hr he (repV_mkInt _ _) (by simp [execOp, ho, repV_int hv, Op.unary, Op.intArith])
    · refine Ok.pure hr he (repV_mkInt _ _) ?_
      simp only [execOp, ho, repV_int hv, Op.unary, Op.intBits]
      simp
      rename_i k p
      cases k <;> rfl
    · exact Ok.pure hr he (repV_mkBool _) (by simp [execOp, ho, repV_bool hv, Op.unary])
    · cases he
  · cases he

/-- A string of a slice of bytes. -/
theorem run_bytes_str (w : World) {S : Cells} {m : Nat → Option MB} {l : List Int} {v : Value} (hv : RepV w S m (.val (.slice (.int .u8)) l) v) {src dst e : TypeId} (hs : P.underlying src = some (.slice e)) (he : P.underlying e = some (.int .u8)) (hd : P.underlying dst = some .string) :
    (convert src dst v).run P w = .ok (.string (bytesE l)) w := by
  rcases hv with q | ⟨cs, ⟨A, cap, q1, q2, q3⟩, q4⟩
  · cases q
  subst q1
  have q4 : [Value.slice A l.length cap] = [v] := q4
  obtain rfl := (List.cons.inj q4).1
  cases A with
  | none =>
    have hl : l = [] := by
      cases l with
      | nil => rfl
      | cons x l =>
        obtain ⟨b, o, ds, e1, -⟩ := q3 0 x rfl
        cases e1
    subst hl
    exact run_convert_bytes_nil w src e hs he _ _ dst hd
  | some A =>
    cases l with
    | nil =>
      rw [run_convert_bytes_string w src dst e _ _ _ hs he hd]
      exact run_bytesToString w A 0 cap [] (by simp [loadCells, loadCellsFrom])
    | cons x l =>
      obtain ⟨b, o, ds, e1, -⟩ := q3 0 x rfl
      cases e1
      exact run_convert_bytes_arg w src e hs he b o (x :: l).length cap (x :: l) rfl (fun i hi => by
        have hx : (x :: l)[i]? = some ((x :: l).getD i 0) := by rw [List.getD_eq_getElem?_getD, List.getElem?_eq_getElem hi]; rfl
        obtain ⟨b', o', ds, e1, e2, e3, e4⟩ := q3 i _ hx
        cases e1
        have e4 : ds = [.int .u8 ((x :: l).getD i 0)] := e4
        subst e4
        have := e3.1 0 _ rfl
        simpa [K.size] using this) dst hd

theorem ok_convert (hC : CtxOk P C) (hr : Rel s a.tmps w S m) {t d : TypeId} {x : Operand} (ho : o.op = .convert t d x) (he : evalOp C o s.env s.sto κ = some r) : Ok P s a w S m o κ r := by
  simp only [evalOp, ho] at he
  split at he
  · rename_i k k' n hd hx
    have hdd := (hC.ty _ _ hd).desc
    cases ht : isInt (C.ty t) with
    | false => simp [ht] at he
    | true =>
    simp only [ht, cond_true] at he
    obtain ⟨q, hq⟩ : ∃ k, C.ty t = some (.int k) := by
      unfold isInt at ht; split at ht
      · exact ⟨_, by assumption⟩
      · cases ht
    have htd := (hC.ty _ _ hq).desc
    simp only [DescOk] at hdd htd
    refine Ok.pure hr he (repV_mkInt _ _) ?_
    simp [execOp, ho, repV_int (opnd_ok hr hx), convert, run_underlying htd, run_underlying hdd, Conv.intToInt]
  · rename_i l hd hx
    have hdd := (hC.ty _ _ hd).desc
    cases hty : isTy C t (.slice (.int .u8)) with
    | false => rw [hty] at he; cases he
    | true =>
    rw [hty, cond_true] at he
    have ht : C.ty t = some (.slice (.int .u8)) := by
      unfold isTy at hty
      split at hty
      · rename_i c hc; rw [hc, of_decide_eq_true hty]
      · cases hty
    obtain ⟨te, hts, hte⟩ := (hC.ty _ _ ht).desc
    have hu8 := (hC.ty _ _ hte).desc
    simp only [DescOk] at hdd hu8
    have hv := opnd_ok hr hx
    refine Ok.pure (v := .string (bytesE l)) hr he (.inr ⟨[_], rfl, by simp [Shut, T.isAgg, K.isAgg]⟩) ?_
    have hrun := run_bytes_str w hv hts hu8 hdd
    simp [execOp, ho, hrun]
  · cases he

theorem repV_tup {l : T} {v : Value} (h : RepV w S m (.tup l) v) : ∃ vs, RepC w S m l vs ∧ v = .tuple vs.toArray := by
  rcases h with h | ⟨cs, ⟨vs, h, e⟩, hs⟩
  · cases h
  · subst e; exact ⟨vs, h, by simpa [Shut, T.isAgg, K.isAgg] using hs.symm⟩

theorem nthT_ok : ∀ {l : T} {j : Nat} {t : T} {vs : List Value}, nthT l j = some t → RepC w S m l vs → ∃ v, vs[j]? = some v ∧ RepV w S m t v
  | .tc p q, 0, t, vs, h, ⟨v, rest, e, h1, h2⟩ => by
    simp only [nthT, Option.some.injEq] at h; subst h; subst e
    exact ⟨v, rfl, h1⟩
  | .tc p q, j + 1, t, vs, h, ⟨v, rest, e, h1, h2⟩ => by
    simp only [nthT] at h; subst e
    obtain ⟨v', h3, h4⟩ := nthT_ok h h2
    exact ⟨v', by simpa using h3, h4⟩

theorem ok_extract (hr : Rel s a.tmps w S m) {x : Operand} {j : Nat} (ho : o.op = .extract x j) (he : evalOp C o s.env s.sto κ = some r) : Ok P s a w S m o κ r := by
  simp only [evalOp, ho] at he
  split at he
  · rename_i l hx
    split at he
    · rename_i u hu
      obtain ⟨vs, h1, h2⟩ := repV_tup (opnd_ok hr hx)
      obtain ⟨v, h3, h4⟩ := nthT_ok hu h1
      exact Ok.pure hr he h4 (by simp [execOp, ho, h2, Instr.extract, h3])
    · cases he
  · cases he

theorem chainT_ok (hr : Rel s a.tmps w S m) : ∀ {xs : List Operand} {tys : List (Option K)} {t : T}, chainT s.env tys xs = some t → RepC w S m t (xs.map a.eval)
  | [], _, t, h => by simp only [chainT, Option.some.injEq] at h; subst h; rfl
  | x :: xs, tys, t, h => by
    simp only [chainT] at h
    obtain ⟨u, hu, h⟩ := Option.bind_eq_some_iff.1 h
    obtain ⟨q, hq, h⟩ := Option.map_eq_some_iff.1 h
    subst h
    exact ⟨_, _, rfl, opnd_ok hr hu, chainT_ok hr hq⟩

theorem ok_makeFunc (hr : Rel s a.tmps w S m) {fn : Fn} {fst caps : Array Operand} (ho : o.op = .makeFunc fn fst caps) (he : evalOp C o s.env s.sto κ = some r) : Ok P s a w S m o κ r := by
  cases fn with
  | func f =>
    simp only [evalOp, ho] at he
    split at he
    · rename_i hf
      have hf' : fst = #[] := by cases fst; simp_all
      subst hf'
      split at he
      · rename_i c hc
        have := chainT_ok hr hc
        cases hb : Nat.blt f cloB with
        | false => rw [hb] at he; cases he
        | true =>
          rw [hb] at he
          exact Ok.pure (v := .func (.func f) #[] (caps.toList.map a.eval).toArray) hr he (.inr ⟨[_], ⟨_, this, rfl⟩, by simp [Shut, T.isAgg, cloV_lt hb]⟩) (by
            have e : (caps.toList.map a.eval).toArray = caps.map a.eval := by rw [← Array.toList_map]
            rw [e]; simp [execOp, ho, Instr.makeFunc])
      · cases he
    · rename_i x xs hf
      split at he
      · rename_i hcs
        have hc' : caps = #[] := by cases caps; simp_all
        subst hc'
        split at he
        · rename_i c hc
          have := chainT_ok hr hc
          rw [← hf] at this
          exact Ok.pure (v := .func (.func f) (fst.toList.map a.eval).toArray #[]) hr he (.inr ⟨[_], ⟨_, this, rfl⟩, by simp [Shut, T.isAgg, cloV_add]⟩) (by
            have e : (fst.toList.map a.eval).toArray = fst.map a.eval := by rw [← Array.toList_map]
            rw [e]; simp [execOp, ho, Instr.makeFunc])
        · cases he
      · cases he
  | _ => simp [evalOp, ho] at he

theorem ok_nilCheck (hr : Rel s a.tmps w S m) {x : Operand} (ho : o.op = .nilCheck x) (he : evalOp C o s.env s.sto κ = some r) : Ok P s a w S m o κ r := by
  simp only [evalOp, ho] at he
  split at he
  · rename_i i p hx
    have hv := opnd_ok hr hx
    obtain ⟨u, hu, e⟩ := repV_ptr hv
    exact Ok.pure hr he hv (by simp [execOp, ho, e])
  · rename_i c y hx
    have hv := opnd_ok hr hx
    obtain ⟨b, q, ds, e, _⟩ := repV_rptr hv
    exact Ok.pure hr he hv (by simp [execOp, ho, e])
  · cases he
end
end Go.Proofs.D
