/- The machine's own steps on memory, told by shapes. -/
import Derived.Test.YtmmhjcimijfipaaGreatDSto
import Derived.WalkKit
set_option linter.unusedVariables false
set_option linter.unusedSimpArgs false
namespace Go.Proofs.D
open Go.RowKit

section
variable {P : Program} {ty : TypeId → Option K} {t : TypeId} {c : K} {w : World}

theorem TyOk.und (h : TyOk P ty t c) : ∃ d, P.underlying t = some d ∧ d.isRow = c.isAgg := by
  have := h.desc
  cases c with
  | int k => exact ⟨_, this, rfl⟩
  | bool => exact ⟨_, this, rfl⟩
  | str => exact ⟨_, this, rfl⟩
  | hdr => obtain ⟨te, h⟩ := this; exact ⟨_, h, rfl⟩
  | ref r =>
    match r, this with
    | 0, ⟨e, h⟩ => exact ⟨_, h, rfl⟩
    | 1, ⟨k, e, h⟩ => exact ⟨_, h, rfl⟩
    | 2, ⟨a, b, c, h⟩ => exact ⟨_, h, rfl⟩
  | slice e => obtain ⟨te, h, _⟩ := this; exact ⟨_, h, rfl⟩
  | unit => obtain ⟨te, h, _⟩ := this; exact ⟨_, h, rfl⟩
  | cons a b => obtain ⟨te, h, _⟩ := this; exact ⟨_, h, rfl⟩
  | arr n e => obtain ⟨te, h, _⟩ := this; exact ⟨_, h, rfl⟩

theorem TyOk.run_typeInfo (h : TyOk P ty t c) : ∃ i, (typeInfo t).run P w = .ok i w ∧ i.size = c.size ∧ i.bytes ≤ 32768 ∧ i.zero = some (shutV c.isAgg (zcells c)) := by
  obtain ⟨i, h1, h2⟩ := h.info
  exact ⟨i, by simp [typeInfo, h1], h2⟩
theorem TyOk.run_size (h : TyOk P ty t c) : (sizeOf t).run P w = .ok c.size w := by
  obtain ⟨i, h1, h2, _⟩ := h.run_typeInfo (w := w)
  simp [sizeOf, Sem.run_bind, h1, h2]
theorem TyOk.run_zero (h : TyOk P ty t c) : (zeroValue t).run P w = .ok (shutV c.isAgg (zcells c)) w := by
  obtain ⟨i, h1, _, _, h2⟩ := h.run_typeInfo (w := w)
  simp [zeroValue, Sem.run_bind, h1, h2]
theorem TyOk.run_isAgg (h : TyOk P ty t c) : (isAgg t).run P w = .ok c.isAgg w := by
  obtain ⟨d, h1, h2⟩ := h.und
  rw [← h2]
  unfold isAgg
  rw [Sem.run_bind, run_underlying h1 w]
  cases d <;> rfl

theorem K.size_one : ∀ {c : K}, c.isAgg = false → c.size = 1
  | .int _, _ => rfl | .bool, _ => rfl | .str, _ => rfl | .hdr, _ => rfl | .ref _, _ => rfl | .slice _, _ => rfl

/-- A value of these cells. -/
theorem shut_of {c : K} {cs : List Value} (hl : cs.length = c.size) : Shut c.isAgg cs (shutV c.isAgg cs) := by
  unfold Shut shutV
  cases ha : c.isAgg with
  | true => simp
  | false =>
    rw [K.size_one ha] at hl
    match cs, hl with
    | [v], _ => simp

theorem TyOk.run_load (h : TyOk P ty t c) {b o : Nat} {cs : List Value} (hc : w.rangeAt b o cs) (hl : cs.length = c.size) :
    ∃ v, (Instr.loadAt t (.pointer (some ⟨b, o, none⟩))).run P w = .ok v w ∧ Shut c.isAgg cs v := by
  refine ⟨_, ?_, shut_of hl⟩
  cases ha : c.isAgg with
  | true =>
    obtain ⟨d, h1, h2⟩ := h.und
    obtain ⟨i, h3, h4, _⟩ := h.info
    have := run_loadAt_mid (P := P) w b o t cs d hc h1 (by rw [h2, ha]) (by simp [h3, h4, hl])
    simpa [shutV] using this
  | false =>
    rw [K.size_one ha] at hl
    match cs, hl with
    | [v], _ =>
      have h0 := hc 0 v rfl
      have hagg := h.run_isAgg (w := w)
      rw [ha] at hagg
      simp [Instr.loadAt, Instr.sureAddr, loadVar, Sem.run_bind, hagg, load, Sem.run, shutV, h0] at h0 ⊢

theorem TyOk.run_store (h : TyOk P ty t c) {b o : Nat} {cs : List Value} {v : Value} (hv : v.cells = cs.toArray) (hl : cs.length = c.size) (h1 : ∀ x ∈ cs, x.oneCell' = true) (ht : w.there b o cs.length) :
    (Instr.storeAt t (.pointer (some ⟨b, o, none⟩)) v).run P w = .ok () (w.setCells b o cs) := by
  obtain ⟨i, h3, h4, _⟩ := h.info
  have := run_storeVar_mid (P := P) w b o t cs.toArray (by simpa using ht) (by simp [h3, h4, hl]) (all_oneCell_toArray h1)
  simp only [Instr.storeAt, Instr.sureAddr, Sem.run_bind, Sem.run_pure, Result.andThen_ok]
  unfold storeVar at this ⊢
  rw [hv]
  simpa [Value.cells] using this

theorem TyOk.run_part (h : TyOk P ty t c) {xs : Array Value} {off : Nat} {cs : List Value} (hc : cs = (xs.toList.drop off).take c.size) (hl : cs.length = c.size) :
    ∃ v, (part t xs off).run P w = .ok v w ∧ Shut c.isAgg cs v := by
  have hagg := h.run_isAgg (w := w)
  have hs := h.run_size (w := w)
  cases ha : c.isAgg with
  | true =>
    rw [ha] at hagg
    refine ⟨.agg (xs.extract off (off + c.size)), by simp [part, Sem.run_bind, hagg, hs], ?_⟩
    simp only [Shut, if_true]
    congr 1
    apply Array.ext'
    rw [hc]; simp [List.drop_take]
  | false =>
    rw [ha] at hagg
    have h1 := K.size_one ha
    rw [h1] at hc hl
    match cs, hl with
    | [v], _ =>
      have hx : xs[off]? = some v := by
        have := congrArg (fun l : List Value => l[0]?) hc
        simp at this
        rw [← this]
      exact ⟨v, by simp [part, Sem.run_bind, hagg, hx], by simp [Shut]⟩

theorem rangeAt_sub {b o : Nat} {cs : List Value} (h : w.rangeAt b o cs) (i n : Nat) : w.rangeAt b (o + i) ((cs.drop i).take n) := fun j v hj => by
  have : cs[i + j]? = some v := by
    rw [List.getElem?_take] at hj
    split at hj
    · rwa [List.getElem?_drop] at hj
    · cases hj
  have := h (i + j) v this
  rwa [← Nat.add_assoc] at this

theorem Stays_sub {S : Cells} {b o : Nat} {cs : List Value} (h : Stays w S b o cs) (i n : Nat) : Stays w S b (o + i) ((cs.drop i).take n) :=
  ⟨rangeAt_sub h.1 i n, fun j hj => by
    have : i + j < cs.length := by simp at hj; omega
    have := h.2 (i + j) this
    rwa [← Nat.add_assoc] at this⟩

/-! ### Values of slots -/
variable {S : Cells} {m : Nat → Option MB}
theorem repV_of {T' : T} {d : K} {cs : List Value} {v : Value} (hf : T'.fits d = true) (hr : RepC w S m T' cs) (hs : Shut d.isAgg cs v) : RepV w S m T' v := by
  cases ha : T'.isAny with
  | true => exact .inl ha
  | false => exact .inr ⟨cs, hr, by rw [T.fits_agg hf ha]; exact hs⟩
theorem repV_val {d : K} {x : El d} {cs : List Value} {v : Value} (hr : Rep w S d x cs) (hs : Shut d.isAgg cs v) : RepV w S m (.val d x) v := .inr ⟨cs, hr, hs⟩
theorem of_repV {T' : T} {v : Value} (ha : T'.isAny = false) (hr : RepV w S m T' v) : ∃ cs, RepC w S m T' cs ∧ Shut T'.isAgg cs v := by
  rcases hr with h | h
  · rw [ha] at h; cases h
  · exact h
theorem of_repV_fits {T' : T} {d : K} {v : Value} (ha : T'.isAny = false) (hf : T'.fits d = true) (hr : RepV w S m T' v) : ∃ cs, RepC w S m T' cs ∧ Shut d.isAgg cs v ∧ v.cells = cs.toArray ∧ cs.length = d.size ∧ ∀ x ∈ cs, x.oneCell' = true := by
  obtain ⟨cs, h1, h2⟩ := of_repV ha hr
  rw [T.fits_agg hf ha] at h2
  have h3 := RepC.one hf h1
  exact ⟨cs, h1, h2, cells_of_shut h2 h3, RepC.length hf h1, h3⟩

theorem known_any {x y : T} (h : x.known = some y) : x = y ∧ y.isAny = false := by
  unfold T.known at h
  split at h
  · cases h
  · have := Option.some.inj h; subst this; exact ⟨rfl, by cases x <;> first | rfl | (rename_i hh; exact absurd rfl (hh _))⟩
theorem constT_any {k : Option K} {v : Value} {t : T} (h : constT k v = some t) : t.isAny = false := by
  unfold constT at h
  split at h
  any_goals (cases h; rfl)
  · split at h
    · cases h; rfl
    · cases h
  · cases h
theorem opnd_any {s : Nat → T} {k : Option K} {x : Operand} {t : T} (h : opnd s k x = some t) : t.isAny = false := by
  cases x with
  | tmp n => exact (known_any h).2
  | const v => exact constT_any h
  | func f => simp only [opnd] at h; obtain ⟨_, h⟩ := bif_some h; cases h; rfl
  | global g => simp [opnd] at h

/-! ### Fields of a struct -/
theorem FieldsOk.at {tyT : TypeId → Option K} : ∀ {fs : List Field} {c : K} {off j : Nat} {d : K}, FieldsOk tyT fs c off → codeAt c [.fld j] = some d → ∃ f, fs[j]? = some f ∧ f.offset = off + offK c [.fld j] ∧ tyT f.type = some d
  | f :: r, .cons a b, off, 0, d, ⟨h1, h2, _, _⟩, hc => by
    have : a = d := by cases a <;> simpa [codeAt] using hc
    subst this
    exact ⟨f, rfl, by rw [h1]; cases a <;> rfl, h2⟩
  | f :: r, .cons a b, off, j + 1, d, ⟨h1, h2, _, h3⟩, hc => by
    obtain ⟨g, h4, h5, h6⟩ := h3.at (show codeAt b [.fld j] = some d from hc)
    exact ⟨g, by simpa using h4, by rw [h5]; simp only [offK]; omega, h6⟩
  | [], .unit, _, _, d, _, hc => by simp [codeAt] at hc
  | [], .cons _ _, _, _, d, h, hc => h.elim
  | _ :: _, .unit, _, _, d, h, hc => h.elim

theorem DescOk.struct {tyT : TypeId → Option K} {c : K} {j : Nat} {d : K} (h : DescOk P tyT t c) (hc : codeAt c [.fld j] = some d) :
    ∃ fs f, P.underlying t = some (.struct fs) ∧ fs[j]? = some f ∧ f.offset = offK c [.fld j] ∧ tyT f.type = some d := by
  cases c with
  | cons a b =>
    obtain ⟨fs, h1, h2⟩ := h
    obtain ⟨f, h3, h4, h5⟩ := h2.at hc
    exact ⟨fs, f, h1, by simpa using h3, by rw [h4]; omega, h5⟩
  | _ => simp [codeAt] at hc

theorem isTy_some {C : Ctx} (h : isTy C t c = true) : C.ty t = some c := by
  unfold isTy at h
  split at h
  · rename_i d hd; simp at h; subst h; exact hd
  · cases h
theorem isTyO_some {C : Ctx} {o : Option K} (h : isTyO C t o = true) : ∃ c, o = some c ∧ C.ty t = some c := by
  unfold isTyO at h
  split at h
  · exact ⟨_, rfl, isTy_some h⟩
  · cases h

theorem codeAt_append : ∀ {c : K} {p q : List Step} {d : K}, codeAt c p = some d → codeAt c (p ++ q) = codeAt d q
  | c, [], q, d, h => by simp only [codeAt, Option.some.injEq] at h; subst h; rfl
  | .cons a b, .fld 0 :: p, q, d, h => by simp only [codeAt, List.cons_append] at h ⊢; exact codeAt_append h
  | .cons a b, .fld (j + 1) :: p, q, d, h => by
    simp only [codeAt, List.cons_append] at h ⊢; exact codeAt_append (p := .fld j :: p) h
  | .arr n e, .idx i :: p, q, d, h => by simp only [codeAt, List.cons_append] at h ⊢; exact codeAt_append h
  | .int _, _ :: _, q, d, h => by simp [codeAt] at h
  | .bool, _ :: _, q, d, h => by simp [codeAt] at h
  | .str, _ :: _, q, d, h => by simp [codeAt] at h
  | .hdr, _ :: _, q, d, h => by simp [codeAt] at h
  | .ref _, _ :: _, q, d, h => by simp [codeAt] at h
  | .slice _, _ :: _, q, d, h => by simp [codeAt] at h
  | .unit, _ :: _, q, d, h => by simp [codeAt] at h
  | .cons _ _, .idx _ :: _, q, d, h => by simp [codeAt] at h
  | .arr _ _, .fld _ :: _, q, d, h => by simp [codeAt] at h
theorem offK_append : ∀ {c : K} {p q : List Step} {d : K}, codeAt c p = some d → offK c (p ++ q) = offK c p + offK d q
  | c, [], q, d, h => by simp only [codeAt, Option.some.injEq] at h; subst h; cases c <;> simp [offK]
  | .cons a b, .fld 0 :: p, q, d, h => by simp only [codeAt] at h; simp only [offK, List.cons_append]; exact offK_append h
  | .cons a b, .fld (j + 1) :: p, q, d, h => by
    simp only [codeAt] at h; simp only [offK, List.cons_append]
    have := offK_append (p := .fld j :: p) (q := q) h
    simp only [List.cons_append] at this; omega
  | .arr n e, .idx i :: p, q, d, h => by simp only [codeAt] at h; simp only [offK, List.cons_append]; have := offK_append (q := q) h; omega
  | .int _, _ :: _, q, d, h => by simp [codeAt] at h
  | .bool, _ :: _, q, d, h => by simp [codeAt] at h
  | .str, _ :: _, q, d, h => by simp [codeAt] at h
  | .hdr, _ :: _, q, d, h => by simp [codeAt] at h
  | .ref _, _ :: _, q, d, h => by simp [codeAt] at h
  | .slice _, _ :: _, q, d, h => by simp [codeAt] at h
  | .unit, _ :: _, q, d, h => by simp [codeAt] at h
  | .cons _ _, .idx _ :: _, q, d, h => by simp [codeAt] at h
  | .arr _ _, .fld _ :: _, q, d, h => by simp [codeAt] at h
end
end Go.Proofs.D
