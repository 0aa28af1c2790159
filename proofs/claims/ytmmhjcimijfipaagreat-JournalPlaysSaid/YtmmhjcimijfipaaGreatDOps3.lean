/- Fields, elements, loads, stores, lengths. -/
import Derived.Test.YtmmhjcimijfipaaGreatDOps2
set_option linter.unusedVariables false
set_option linter.unusedSimpArgs false
namespace Go.Proofs.D
open Go.RowKit

section
variable {P : Program} {C : Ctx} {s : St} {a : Act} {w : World} {S : Cells} {m : Nat → Option MB} {R : Type} {κ : T → Ups → Option R} {r : R} {o : Oper}

theorem isSomeK_some {c : Option K} (h : isSomeK c = true) : ∃ d, c = some d := by
  cases c with
  | none => cases h
  | some d => exact ⟨d, rfl⟩
theorem nzO_some {c : Option K} (h : nzO c = true) : ∃ d, c = some d ∧ 0 < d.size := by
  cases c with
  | none => cases h
  | some d => exact ⟨d, rfl, by simpa [nzO, Nat.blt_eq] using h⟩

theorem Rel.obj (hr : Rel s a.tmps w S m) {i : Nat} {u : MB} {p : Obj} (hu : m i = some u) (h : s.sto i = some p) : ObjOk w S m u p := by
  obtain ⟨u', h1, h2⟩ := hr.sto i p h
  rw [hu] at h1; cases h1; exact h2
theorem ObjOk.shape {u : MB} {p : Obj} {c : K} (h : ObjOk w S m u p) (hc : shapeO (some p) = some c) : u.code = c := by
  cases p with
  | cell c' fz t => simp only [shapeO, Option.some.injEq] at hc; subst hc; exact h.2.1
  | row e sh l => simp only [shapeO, Option.some.injEq] at hc; subst hc; obtain ⟨A, cap, _, _, h, _⟩ := h; exact h
  | map _ _ _ => cases hc
theorem shapeP_some (hr : Rel s a.tmps w S m) {i : Nat} {u : MB} {p : List Step} {d : K} (hu : m i = some u) (h : shapeP s.sto i p = some d) : codeAt u.code p = some d := by
  unfold shapeP at h
  split at h
  · rename_i c hc
    cases ho : s.sto i with
    | none => rw [ho] at hc; cases hc
    | some o => rw [ho] at hc; rw [(hr.obj hu ho).shape hc]; exact h
  · cases h

theorem ok_field (hC : CtxOk P C) (hr : Rel s a.tmps w S m) {t : TypeId} {x : Operand} {j : Nat} (ho : o.op = .field t x j) (he : evalOp C o s.env s.sto κ = some r) : Ok P s a w S m o κ r := by
  simp only [evalOp, ho] at he
  split at he
  case h_2 => cases he
  rename_i u hx
  split at he
  case h_2 => cases he
  rename_i c hc
  obtain ⟨hb, he⟩ := bif_some he
  simp only [Bool.and_eq_true] at hb
  obtain ⟨hf, hs⟩ := hb
  obtain ⟨d, hd⟩ := isSomeK_some hs
  have hT := hC.ty _ _ hc
  obtain ⟨fs, f, h1, h2, h3, h4⟩ := hT.desc.struct hd
  obtain ⟨cs, rc, sh, hcl, hl, h1c⟩ := of_repV_fits (opnd_any hx) hf (opnd_ok hr hx)
  obtain ⟨y, hk, hyf, hy, hle⟩ := getT_ok hf rc hd he
  have hagg : c.isAgg = true := by cases c <;> first | rfl | (simp [codeAt] at hd; done)
  rw [hagg] at sh
  obtain ⟨v, hp, hsv⟩ := (hC.ty _ _ h4).run_part (w := w) (xs := cs.toArray) (off := f.offset) (cs := (cs.drop (offK c [.fld j])).take d.size) (by rw [h3]) (RepC.length hyf hy)
  exact Ok.pure hr hk (repV_of hyf hy hsv) (by simp [execOp, ho, Instr.field, Sem.run_bind, run_underlying h1, h2, shut_agg sh, asAgg, hp])

theorem getT_lt : ∀ {t : T} {n j : Nat} {e : K} {p : List Step} {k : T → Option R} {r : R} {cs : List Value}, t.fits (.arr n e) = true → RepC w S m t cs → getT t (.idx (.ofNat j) :: p) k = some r → j < n := by
  intro t
  induction t with
  | val c' x =>
    intro n j e p k r cs hf hr h
    have := T.fits_val hf; subst this
    simp only [getT, getE] at h
    obtain ⟨q, y, hj, hy, _⟩ := nthK_some h
    have : j = q := Int.ofNat.inj hj
    subst this
    rw [← hr.1]; exact (List.getElem?_eq_some_iff.1 hy).1
  | pair a b iha ihb =>
    intro n j e p k r cs hf hr h
    cases n with
    | zero => simp [T.fits] at hf
    | succ n =>
      cases j with
      | zero => omega
      | succ j =>
        simp only [T.fits, Bool.and_eq_true] at hf
        obtain ⟨c1, c2, _, h1, h2⟩ := hr
        simp only [getT] at h
        have := ihb hf.2 h2 h
        omega
  | _ => intro n j e p k r cs hf hr h; simp [getT] at h

theorem ok_index (hC : CtxOk P C) (hr : Rel s a.tmps w S m) {t : TypeId} {x i : Operand} (ho : o.op = .index t x i) (he : evalOp C o s.env s.sto κ = some r) : Ok P s a w S m o κ r := by
  simp only [evalOp, ho] at he
  split at he
  · rename_i n e l k j hx hi
    obtain ⟨hb, he⟩ := bif_some he
    have hc := isTy_some hb
    obtain ⟨te, h1, h2⟩ := (hC.ty _ _ hc).desc
    obtain ⟨q, y, hj, hy, hk⟩ := nthK_some he
    subst hj
    obtain ⟨cs, rc, sh⟩ := of_repV rfl (opnd_ok hr hx)
    obtain ⟨h3, h4⟩ := RepL.get (n := e.size) (fun _ _ h => Rep.length h) rc.2 hy
    have hE := hC.ty _ _ h2
    obtain ⟨v, hp, hsv⟩ := hE.run_part (w := w) (xs := cs.toArray) (off := q * e.size) (cs := (cs.drop (q * e.size)).take e.size) rfl (Rep.length h3)
    have hlt : q < n := by rw [← rc.1]; exact (List.getElem?_eq_some_iff.1 hy).1
    exact Ok.pure hr hk (repV_val h3 hsv) (by
      simp [execOp, ho, Instr.index, Sem.run_bind, run_underlying h1, shut_agg sh, repV_int (opnd_ok hr hi), asIntOf, hE.run_size, hp, hlt])
  · rename_i p q k j hx hi
    split at he
    case h_2 => cases he
    rename_i n e hc
    obtain ⟨hf, hg⟩ := bif_some he
    obtain ⟨cs, rc, sh, hcl, hl, h1c⟩ := of_repV_fits rfl hf (opnd_ok hr hx)
    obtain ⟨te, h1, h2⟩ := (hC.ty _ _ hc).desc
    have hE := hC.ty _ _ h2
    have hi2 := repV_int (opnd_ok hr hi)
    cases j with
    | negSucc j => simp [getT] at hg
    | ofNat j =>
      obtain ⟨y, hk, hyf, hy, hle⟩ := getT_ok (d := e) hf rc (by cases e <;> rfl) hg
      have hlt := getT_lt hf rc hg
      have eo : offK (.arr n e) [.idx (.ofNat j)] = j * e.size := by cases e <;> simp [offK]
      rw [eo] at hy hle
      obtain ⟨v, hp, hsv⟩ := hE.run_part (w := w) (xs := cs.toArray) (off := j * e.size) (cs := (cs.drop (j * e.size)).take e.size) rfl (RepC.length hyf hy)
      exact Ok.pure hr hk (repV_of hyf hy hsv) (by
        simp [execOp, ho, Instr.index, Sem.run_bind, run_underlying h1, shut_agg sh, hi2, asIntOf, hE.run_size, hp, hlt])
  · rename_i b k j hx hi
    obtain ⟨hb, he⟩ := bif_some he
    have h1 := (hC.ty _ _ (isTy_some hb)).desc
    obtain ⟨q, y, hj, hy, hk⟩ := nthK_some he
    subst hj
    have hv := repV_str (opnd_ok hr hx)
    obtain ⟨u, hu, hy⟩ : ∃ u, b.data.toList[q]? = some u ∧ ((u.toNat : Nat) : Int) = y := by
      unfold strL at hy
      rw [List.getElem?_map] at hy
      cases hq : b.data.toList[q]? with
      | none => rw [hq] at hy; cases hy
      | some u => rw [hq] at hy; exact ⟨u, rfl, Option.some.inj hy⟩
    subst hy
    have hbq : b[q]? = some u := by
      rw [Array.getElem?_toList] at hu
      obtain ⟨h2, h3⟩ := Array.getElem?_eq_some_iff.1 hu
      have hlt : q < b.size := h2
      rw [getElem?_pos b q hlt]
      exact congrArg some h3
    exact Ok.pure (v := .int .u8 u.toNat) hr hk (repV_mkInt _ _) (by
      simp [execOp, ho, Instr.index, Sem.run_bind, run_underlying h1, hv, repV_int (opnd_ok hr hi), asIntOf, hbq])
  · cases he

theorem ok_fieldAddr (hC : CtxOk P C) (hr : Rel s a.tmps w S m) {t : TypeId} {x : Operand} {j : Nat} (ho : o.op = .fieldAddr t x j) (he : evalOp C o s.env s.sto κ = some r) : Ok P s a w S m o κ r := by
  simp only [evalOp, ho] at he
  split at he
  · rename_i i p hx
    obtain ⟨hb, he⟩ := bif_some he
    simp only [Bool.and_eq_true] at hb
    obtain ⟨c, h1, hc⟩ := isTyO_some hb.1
    obtain ⟨d, h2, hz⟩ := nzO_some hb.2
    obtain ⟨u, hu, e⟩ := repV_ptr (opnd_ok hr hx)
    have h1' := shapeP_some hr hu h1
    have h2' := shapeP_some hr hu h2
    rw [codeAt_append h1'] at h2'
    obtain ⟨fs, f, h3, h4, h5, h6⟩ := (hC.ty _ _ hc).desc.struct h2'
    refine Ok.pure hr he (repV_mkPtr hu) ?_
    have hn : ¬ d.size = 0 := by omega
    simp [execOp, ho, Instr.fieldAt, Sem.run_bind, run_underlying h3, h4, e, Instr.sureAddr, fieldPlace, (hC.ty _ _ h6).run_size, hn, Addr.add_mid, offK_append h1', h5, Nat.add_assoc]
  · rename_i c y hx
    obtain ⟨hb, he⟩ := bif_some he
    simp only [Bool.and_eq_true] at hb
    have hc := isTy_some hb.1
    obtain ⟨d, h2, hz⟩ := nzO_some hb.2
    obtain ⟨b, q, ds, e, hrep, hst⟩ := repV_rptr (opnd_ok hr hx)
    obtain ⟨z, hk, hy, hle⟩ := getE_ok hrep h2 he
    obtain ⟨fs, f, h3, h4, h5, h6⟩ := (hC.ty _ _ hc).desc.struct h2
    refine Ok.pure hr hk (repV_mkRptr hy (Stays_sub hst _ _)) ?_
    have hn : ¬ d.size = 0 := by omega
    simp [execOp, ho, Instr.fieldAt, Sem.run_bind, run_underlying h3, h4, e, Instr.sureAddr, fieldPlace, (hC.ty _ _ h6).run_size, hn, Addr.add_mid, h5]
  · cases he

theorem ok_indexAddr (hC : CtxOk P C) (hr : Rel s a.tmps w S m) {t : TypeId} {x i : Operand} (ho : o.op = .indexAddr t x i) (he : evalOp C o s.env s.sto κ = some r) : Ok P s a w S m o κ r := by
  simp only [evalOp, ho] at he
  split at he
  · rename_i e' e l k j ht hx hi
    obtain ⟨hb, he⟩ := bif_some he
    simp only [decide_eq_true_eq] at hb; subst hb
    obtain ⟨te, h1, h2⟩ := (hC.ty _ _ ht).desc
    obtain ⟨q, y, hj, hy, hk⟩ := nthK_some he
    subst hj
    obtain ⟨A, cap, e1, hcap, hrow⟩ := repV_slice (opnd_ok hr hx)
    obtain ⟨b, off, cs, hA, hl, hst, hrep⟩ := hrow q y hy
    have hlt := (List.getElem?_eq_some_iff.1 hy).1
    refine Ok.pure hr hk (repV_mkRptr hrep hst) ?_
    simp only [List.cons.injEq, and_true] at e1
    subst hA
    simp [execOp, ho, Instr.indexAt, Sem.run_bind, run_underlying h1, e1, repV_int (opnd_ok hr hi), asIntOf, hlt, (hC.ty _ _ h2).run_size, Addr.add_mid]
  · rename_i e' id k j ht hx hi
    split at he
    case h_2 => cases he
    rename_i e sh l hs
    obtain ⟨hb, he⟩ := bif_some he
    simp only [decide_eq_true_eq] at hb; subst hb
    obtain ⟨hb2, he⟩ := chk_some he
    simp only [Bool.and_eq_true, decide_eq_true_eq] at hb2
    obtain ⟨te, h1, h2⟩ := (hC.ty _ _ ht).desc
    obtain ⟨u, hu, e1, _⟩ := repV_row (opnd_ok hr hx)
    obtain ⟨A, cap, g0, g1, g2, g3, g4, _⟩ := hr.obj hu hs
    obtain ⟨q, hq⟩ := Int.eq_ofNat_of_zero_le hb2.1
    subst hq
    have hlt : q < l.length := by have h : (q : Int) < (l.length : Int) := hb2.2; omega
    refine Ok.pure hr he (repV_mkPtr hu) ?_
    cases hA : A with
    | none => have := g3 hA; omega
    | some ad =>
      have := g4 ad hA (by omega)
      subst this; subst hA
      rw [g0] at e1
      simp [execOp, ho, Instr.indexAt, Sem.run_bind, run_underlying h1, e1, repV_int (opnd_ok hr hi), asIntOf, hlt, (hC.ty _ _ h2).run_size, Addr.add_mid, g2, offK]
  · rename_i n e id p k j ht hx hi
    obtain ⟨hb, he⟩ := bif_some he
    obtain ⟨c, h1, hc⟩ := isTyO_some hb
    rw [ht] at hc; cases hc
    obtain ⟨hb2, he⟩ := chk_some he
    simp only [Bool.and_eq_true, decide_eq_true_eq] at hb2
    obtain ⟨te, h3, h2⟩ := (hC.ty _ _ ht).desc
    obtain ⟨u, hu, e1⟩ := repV_ptr (opnd_ok hr hx)
    have h1' := shapeP_some hr hu h1
    obtain ⟨q, hq⟩ := Int.eq_ofNat_of_zero_le hb2.1
    subst hq
    have hlt : q < n := by have h : (q : Int) < (n : Int) := hb2.2; omega
    refine Ok.pure hr he (repV_mkPtr hu) ?_
    simp [execOp, ho, Instr.indexAt, Sem.run_bind, run_underlying h3, e1, repV_int (opnd_ok hr hi), asIntOf, hlt, Instr.sureAddr, (hC.ty _ _ h2).run_size, Addr.add_mid, offK_append h1', offK, Nat.add_assoc]
  · rename_i n' e' n e l k j ht hx hi
    obtain ⟨hb, he⟩ := bif_some he
    have hc := isTy_some hb
    obtain ⟨te, h1, h2⟩ := (hC.ty _ _ hc).desc
    obtain ⟨q, y, hj, hy, hk⟩ := nthK_some he
    subst hj
    obtain ⟨b, off, ds, e1, hrep, hst⟩ := repV_rptr (opnd_ok hr hx)
    obtain ⟨h3, h4⟩ := RepL.get (n := e.size) (fun _ _ h => Rep.length h) hrep.2 hy
    have hlt : q < n := by rw [← hrep.1]; exact (List.getElem?_eq_some_iff.1 hy).1
    refine Ok.pure hr hk (repV_mkRptr h3 (Stays_sub hst _ _)) ?_
    simp [execOp, ho, Instr.indexAt, Sem.run_bind, run_underlying h1, e1, repV_int (opnd_ok hr hi), asIntOf, hlt, Instr.sureAddr, (hC.ty _ _ h2).run_size, Addr.add_mid]
  · cases he

theorem ok_load (hC : CtxOk P C) (hr : Rel s a.tmps w S m) {t : TypeId} {x : Operand} (ho : o.op = .load t x) (he : evalOp C o s.env s.sto κ = some r) : Ok P s a w S m o κ r := by
  simp only [evalOp, ho] at he
  split at he
  · rename_i c y hx
    obtain ⟨hb, he⟩ := bif_some he
    have hc := isTy_some hb
    obtain ⟨b, off, ds, e1, hrep, hst⟩ := repV_rptr (opnd_ok hr hx)
    obtain ⟨v, h1, h2⟩ := (hC.ty _ _ hc).run_load (w := w) hst.1 (Rep.length hrep)
    exact Ok.pure hr he (repV_val hrep h2) (by simp [execOp, ho, e1, Sem.run_bind, h1])
  · rename_i id p hx
    obtain ⟨hb, hg⟩ := bif_some he
    clear he
    obtain ⟨d, h1, hc⟩ := isTyO_some hb
    obtain ⟨u, hu, e1⟩ := repV_ptr (opnd_ok hr hx)
    have h1' := shapeP_some hr hu h1
    split at hg
    · rename_i c fz y hs
      obtain ⟨-, g1, g2, cs, g3, g4, -⟩ := hr.obj hu hs
      rw [g1] at h1' e1
      obtain ⟨z, hk, hzf, hz, hle⟩ := getT_ok g2 g4 h1' hg
      obtain ⟨v, h2, h3⟩ := (hC.ty _ _ hc).run_load (w := w) (rangeAt_sub g3 _ _) (RepC.length hzf hz)
      exact Ok.pure hr hk (repV_of hzf hz h3) (by simp [execOp, ho, e1, Sem.run_bind, h2])
    · rename_i e sh l hs
      split at hg
      case h_2 => cases hg
      rename_i i q
      obtain ⟨A, cap, g0, g1, g2, g3, g4, g5, -⟩ := hr.obj hu hs
      rw [g2] at h1' e1
      obtain ⟨j, y, hj, hy, hk0⟩ := nthK_some hg
      subst hj
      obtain ⟨cs, k1, k2, k3, -⟩ := g5 j y hy
      obtain ⟨z, hk, hz, hle⟩ := getE_ok k3 (show codeAt e q = some d from h1') hk0
      obtain ⟨v, h2, h3⟩ := (hC.ty _ _ hc).run_load (w := w) (rangeAt_sub k2 _ _) (Rep.length hz)
      refine Ok.pure hr hk (repV_val hz h3) ?_
      simp only [offK, Int.toNat_natCast] at e1
      rw [Nat.add_assoc] at h2
      simp [execOp, ho, e1, Sem.run_bind, h2]
    · cases hg
  · cases he

theorem getObj_map {k : Nat} {fs : Array MapEntry} {clock : Nat} (h : w.heap[k]? = some (.map fs clock)) : (getObj k).run P w = .ok (.map fs clock) w := by simp [getObj, Sem.run, h]

theorem tyArg_some {c : Call} {j : Nat} {k : K} (h : tyArg C c j = some k) : ∃ t, c.argTypes[j]? = some t ∧ C.ty t = some k := by
  unfold tyArg at h
  split at h
  · rename_i t ht; exact ⟨t, by simpa using ht, h⟩
  · cases h

theorem ok_len (hC : CtxOk P C) (hr : Rel s a.tmps w S m) {c : Call} {x : Operand} (ho : o.op = .call c) (hb : c.callee = .builtin .len) (ha : c.args.toList = [x]) (he : evalOp C o s.env s.sto κ = some r) : Ok P s a w S m o κ r := by
  simp only [evalOp, ho, hb, ha] at he
  have ea : c.args = #[x] := by apply Array.ext'; simpa using ha
  have run : ∀ {v : Value}, (Builtin.len_ c.argTypes o.type #[a.eval x]).run P w = .ok v w → (execOp a.eval o).run P w = .ok (.value v) w := fun h => by
    simp [execOp, ho, resolve, hb, ea, Sem.run_bind, invoke, builtin, h]
  split at he
  · rename_i e e' l ht hx
    obtain ⟨t, h1, h2⟩ := tyArg_some ht
    obtain ⟨te, h3, _⟩ := (hC.ty _ _ h2).desc
    obtain ⟨A, cap, e1, _⟩ := repV_slice (opnd_ok hr hx)
    simp only [List.cons.injEq, and_true] at e1
    exact Ok.pure hr he (repV_mkInt _ _) (run (by simp [Builtin.len_, h1, e1, Sem.run_bind, run_underlying h3, goInt]))
  · rename_i e e' ht hx
    obtain ⟨t, h1, h2⟩ := tyArg_some ht
    obtain ⟨te, h3, _⟩ := (hC.ty _ _ h2).desc
    obtain ⟨cs, h4, h5⟩ := of_repV rfl (opnd_ok hr hx)
    simp only [RepC] at h4; subst h4; simp [Shut, T.isAgg] at h5
    exact Ok.pure hr he (repV_mkInt _ _) (run (by simp [Builtin.len_, h1, ← h5, Sem.run_bind, run_underlying h3, goInt]))
  · rename_i l ht hx
    obtain ⟨t, h1, h2⟩ := tyArg_some ht
    have h3 := (hC.ty _ _ h2).desc
    simp only [DescOk] at h3
    exact Ok.pure hr he (repV_mkInt _ _) (run (by simp [Builtin.len_, h1, repV_str (opnd_ok hr hx), Sem.run_bind, run_underlying h3, goInt]))
  · rename_i e id ht hx
    split at he
    case h_2 => cases he
    rename_i e' sh l hs
    obtain ⟨t, h1, h2⟩ := tyArg_some ht
    obtain ⟨te, h3, _⟩ := (hC.ty _ _ h2).desc
    obtain ⟨u, hu, e1, _⟩ := repV_row (opnd_ok hr hx)
    obtain ⟨A, cap, g0, _⟩ := hr.obj hu hs
    rw [g0] at e1
    exact Ok.pure hr he (repV_mkInt _ _) (run (by simp [Builtin.len_, h1, e1, Sem.run_bind, run_underlying h3, goInt]))
  · rename_i id ht hx
    split at he
    case h_2 => cases he
    rename_i kc vc es hs
    obtain ⟨t, h1, h2⟩ := tyArg_some ht
    obtain ⟨tk, te, h3⟩ := (hC.ty _ _ h2).desc
    obtain ⟨u, k, hu, e1, e2⟩ := repV_mapr (opnd_ok hr hx)
    obtain ⟨g0, g1, fs, clock, g2, ⟨-, es0, gp, g3⟩, -⟩ := hr.obj hu hs
    rw [g0] at e2
    have hlen : es.length = fs.size := by
      have : ∀ (es : List (El kc × El vc)) (l : List MapEntry), MapL w S kc vc es l → es.length = l.length := by
        intro es
        induction es with
        | nil => intro l h; cases l with
          | nil => rfl
          | cons => exact h.elim
        | cons e r ih => intro l h; cases l with
          | nil => exact h.elim
          | cons f q => simp [ih q h.2.2]
      have hq := this es0 _ g3
      rw [gp.length_eq] at hq
      simpa using hq
    exact Ok.pure hr he (repV_mkInt _ _) (run (by simp [Builtin.len_, h1, e2, Sem.run_bind, run_underlying h3, getObj_map g2, goInt, hlen]))
  · cases he

theorem ok_max (hr : Rel s a.tmps w S m) {c : Call} {x y : Operand} (ho : o.op = .call c) (hb : c.callee = .builtin .max) (ha : c.args.toList = [x, y]) (he : evalOp C o s.env s.sto κ = some r) : Ok P s a w S m o κ r := by
  simp only [evalOp, ho, hb, ha] at he
  have ea : c.args = #[x, y] := by apply Array.ext'; simpa using ha
  split at he
  case h_2 => cases he
  rename_i k p k' q hx hy
  obtain ⟨hk, he⟩ := bif_some he
  simp only [decide_eq_true_eq] at hk; subst hk
  exact Ok.pure hr he (repV_mkInt _ _) (by
    simp [execOp, ho, resolve, hb, ea, Sem.run_bind, invoke, builtin, Builtin.max_, Builtin.max2, repV_int (opnd_ok hr hx), repV_int (opnd_ok hr hy)])
theorem ok_min (hr : Rel s a.tmps w S m) {c : Call} {x y : Operand} (ho : o.op = .call c) (hb : c.callee = .builtin .min) (ha : c.args.toList = [x, y]) (he : evalOp C o s.env s.sto κ = some r) : Ok P s a w S m o κ r := by
  simp only [evalOp, ho, hb, ha] at he
  have ea : c.args = #[x, y] := by apply Array.ext'; simpa using ha
  split at he
  case h_2 => cases he
  rename_i k p k' q hx hy
  obtain ⟨hk, he⟩ := bif_some he
  simp only [decide_eq_true_eq] at hk; subst hk
  exact Ok.pure hr he (repV_mkInt _ _) (by
    simp [execOp, ho, resolve, hb, ea, Sem.run_bind, invoke, builtin, Builtin.min_, Builtin.min2, repV_int (opnd_ok hr hx), repV_int (opnd_ok hr hy)])
end
end Go.Proofs.D
