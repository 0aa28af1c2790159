/- What is asked of a program: its types' shapes, its functions' contracts. Operands. Operations that touch no memory. -/
import Derived.Test.YtmmhjcimijfipaaGreatDRep
import Derived.Tactics
set_option linter.unusedVariables false
set_option linter.unusedSimpArgs false
namespace Go.Proofs.D
open Go.RowKit

/-! ### Types -/
def zcells : K → List Value
  | .int k => [.int k 0] | .bool => [.bool false] | .str => [.string ⟨#[]⟩] | .hdr => [.slice none 0 0] | .slice _ => [.slice none 0 0]
  | .ref 0 => [.pointer none] | .ref 1 => [.map none] | .ref _ => [.nilFunc]
  | .unit => [] | .cons a b => zcells a ++ zcells b | .arr n e => (List.replicate n (zcells e)).flatten

def shutV (agg : Bool) (cs : List Value) : Value := if agg then .agg cs.toArray else cs.headD undef

def FieldsOk (ty : TypeId → Option K) : List Field → K → Nat → Prop
  | [], .unit, _ => True
  | f :: r, .cons a b, off => f.offset = off ∧ ty f.type = some a ∧ f.name ≠ "_" ∧ FieldsOk ty r b (off + a.size)
  | _, _, _ => False

def DescOk (P : Program) (ty : TypeId → Option K) (t : TypeId) : K → Prop
  | .int k => P.underlying t = some (.int k)
  | .bool => P.underlying t = some .bool
  | .str => P.underlying t = some .string
  | .hdr => ∃ te, P.underlying t = some (.slice te)
  | .ref 0 => ∃ e, P.underlying t = some (.pointer e)
  | .ref 1 => ∃ k e, P.underlying t = some (.map k e)
  | .ref 2 => ∃ a b c, P.underlying t = some (.func a b c)
  | .ref _ => False
  | .slice e => ∃ te, P.underlying t = some (.slice te) ∧ ty te = some e
  | .unit => ∃ fs, P.underlying t = some (.struct fs) ∧ FieldsOk ty fs.toList .unit 0
  | .cons a b => ∃ fs, P.underlying t = some (.struct fs) ∧ FieldsOk ty fs.toList (.cons a b) 0
  | .arr n e => ∃ te, P.underlying t = some (.array n te) ∧ ty te = some e

def depthK : K → Nat | .cons a b => max (depthK a + 1) (depthK b) | .arr _ e => depthK e + 1 | _ => 0

structure TyOk (P : Program) (ty : TypeId → Option K) (t : TypeId) (c : K) : Prop where
  info : ∃ i, P.info? t = some i ∧ i.size = c.size ∧ i.bytes ≤ 32768 ∧ i.zero = some (shutV c.isAgg (zcells c))
  desc : DescOk P ty t c
  eqg : c.flat = true → P.eqGuardType P.depth t = false ∧ P.stoodInHeld t = false ∧ depthK c < 10000

/-! ### Calls -/
/-- What comes of a call. -/
def Upon (P : Program) (r : Result Next) (R : Value → World → Prop) : Prop :=
  match r with
  | .ok (.value v) w => R v w
  | .ok (.enter f args) w => Calls P f args w fun e w' => ∃ v, e = .returned v ∧ R v w'
  | _ => False

theorem Upon.mono {P : Program} {r : Result Next} {R R' : Value → World → Prop} (h : Upon P r R) (k : ∀ v w, R v w → R' v w) : Upon P r R' := by
  unfold Upon at h ⊢
  split at h
  · exact k _ _ h
  · exact h.mono fun e w' ⟨v, he, hr⟩ => ⟨v, he, k _ _ hr⟩
  · exact h.elim

/-- A function's contract. -/
def Sound (P : Program) (f : FuncId) (sg : Sig) : Prop :=
  ∀ (w : World) (S : Cells) (m : Nat → Option MB) (x : SkEl sg.args × ObsEl sg.objs) (y : ResEl sg.ret sg.outs) (vals : List Value),
    sg.F x = some y → RepC w S m (fill sg.args x.1) vals →
    Rel { env := fun _ => .any 0, sto := objs0 (fillOs sg.objs x.2), done := fun _ => false } #[] w S m → (∀ i, 1000 ≤ i → m i = none) →
    Upon P ((callFunc f vals.toArray).run P w) fun v w' => ∃ S' m', RepV w' S' m' (fill sg.ret (res1 y)) v ∧
      Rel { env := fun _ => .any 0, sto := objs0 (fillOs sg.outs (res2 y)), done := fun _ => false } #[] w' S' m' ∧
      (∀ i u, i < sg.objs.length → m i = some u → m' i = some u) ∧
      Ext (OwnSt (objs0 (fillOs sg.objs x.2)) m) w S (fun _ => none) w' S' (fun _ => none) (OwnSt (objs0 (fillOs sg.outs (res2 y))) m')

structure CtxOk (P : Program) (C : Ctx) : Prop where
  ty : ∀ t c, C.ty t = some c → TyOk P C.ty t c
  mp : ∀ t k v, C.mp t = some (k, v) → ∃ tk tv, P.underlying t = some (.map tk tv) ∧ C.ty tk = some k ∧ C.ty tv = some v ∧ k.flat = true
  n : C.n ≤ 99000
  sigs : ∀ f sg, sg ∈ C.sigs f → Sound P f sg

/-! ### Operands -/
section
variable {P : Program} {C : Ctx} {s : St} {a : Act} {w : World} {S : Cells} {m : Nat → Option MB}

theorem repV_int {k : IntKind} {n : Int} {v : Value} (h : RepV w S m (.val (.int k) n) v) : v = .int k n := by
  rcases h with h | ⟨cs, h, hs⟩
  · cases h
  · simp only [RepC, Rep] at h; subst h; simpa [Shut, T.isAgg, K.isAgg] using hs.symm
theorem repV_bool {n : Bool} {v : Value} (h : RepV w S m (.val .bool n) v) : v = .bool n := by
  rcases h with h | ⟨cs, h, hs⟩
  · cases h
  · simp only [RepC, Rep] at h; subst h; simpa [Shut, T.isAgg, K.isAgg] using hs.symm
theorem repV_str {n : ByteArray} {v : Value} (h : RepV w S m (.val .str n) v) : v = .string n := by
  rcases h with h | ⟨cs, h, hs⟩
  · cases h
  · simp only [RepC, Rep] at h; subst h; simpa [Shut, T.isAgg, K.isAgg] using hs.symm
theorem repV_mkInt (k : IntKind) (n : Int) : RepV w S m (.val (.int k) n) (.int k n) := .inr ⟨[.int k n], rfl, by simp [Shut, T.isAgg, K.isAgg]⟩
theorem repV_mkBool (n : Bool) : RepV w S m (.val .bool n) (.bool n) := .inr ⟨[.bool n], rfl, by simp [Shut, T.isAgg, K.isAgg]⟩
theorem repV_mkStr (n : ByteArray) : RepV w S m (.val .str n) (.string n) := .inr ⟨[.string n], rfl, by simp [Shut, T.isAgg, K.isAgg]⟩
theorem repV_slice {e : K} {l : List (El e)} {v : Value} (h : RepV w S m (.val (.slice e) l) v) : Rep w S (.slice e) l [v] := by
  rcases h with h | ⟨cs, h, hs⟩
  · cases h
  · simp only [RepC] at h
    have : cs = [v] := by simpa [Shut, T.isAgg, K.isAgg] using hs
    subst this; exact h
theorem repV_mkSlice {e : K} {l : List (El e)} {v : Value} (h : Rep w S (.slice e) l [v]) : RepV w S m (.val (.slice e) l) v :=
  .inr ⟨[v], h, by simp [Shut, T.isAgg, K.isAgg]⟩
theorem repV_ptr {i : Nat} {p : List Step} {v : Value} (h : RepV w S m (.ptr i p) v) : ∃ u, m i = some u ∧ v = .pointer (some ⟨u.b, u.o + offK u.code p, none⟩) := by
  rcases h with h | ⟨cs, ⟨u, hu, h⟩, hs⟩
  · cases h
  · subst h; exact ⟨u, hu, by simpa [Shut, T.isAgg, K.isAgg] using hs.symm⟩
theorem repV_mkPtr {i : Nat} {p : List Step} {u : MB} (h : m i = some u) : RepV w S m (.ptr i p) (.pointer (some ⟨u.b, u.o + offK u.code p, none⟩)) :=
  .inr ⟨[_], ⟨u, h, rfl⟩, by simp [Shut, T.isAgg]⟩
theorem repV_row {i : Nat} {v : Value} (h : RepV w S m (.row i) v) : ∃ u, m i = some u ∧ v = u.hv ∧ ∃ A n cap, u.hv = .slice A n cap := by
  rcases h with h | ⟨cs, ⟨u, hu, h, h3⟩, hs⟩
  · cases h
  · subst h; exact ⟨u, hu, by simpa [Shut, T.isAgg, K.isAgg] using hs.symm, h3⟩
theorem repV_mkRow {i : Nat} {u : MB} {A : Option Addr} {n cap : Nat} (h : m i = some u) (h3 : u.hv = .slice A n cap) : RepV w S m (.row i) u.hv :=
  .inr ⟨[_], ⟨u, h, rfl, A, n, cap, h3⟩, by simp [Shut, T.isAgg]⟩
theorem repV_rptr {c : K} {x : El c} {v : Value} (h : RepV w S m (.rptr c x) v) : ∃ b o ds, v = .pointer (some ⟨b, o, none⟩) ∧ Rep w S c x ds ∧ Stays w S b o ds := by
  rcases h with h | ⟨cs, ⟨b, o, ds, h, h2⟩, hs⟩
  · cases h
  · subst h; exact ⟨b, o, ds, by simpa [Shut, T.isAgg, K.isAgg] using hs.symm, h2⟩
theorem repV_mkRptr {c : K} {x : El c} {b o : Nat} {ds : List Value} (h : Rep w S c x ds) (h2 : Stays w S b o ds) : RepV w S m (.rptr c x) (.pointer (some ⟨b, o, none⟩)) :=
  .inr ⟨[_], ⟨b, o, ds, rfl, h, h2⟩, by simp [Shut, T.isAgg]⟩
theorem constT_ok {c : Option K} {v : Value} {t : T} (h : constT c v = some t) : RepV w S m t v := by
  unfold constT at h
  split at h
  · cases h; exact repV_mkInt _ _
  · cases h; exact repV_mkBool _
  · cases h; exact repV_mkStr _
  · split at h
    · cases h; exact .inr ⟨[_], rfl, by simp [Shut, T.isAgg]⟩
    · cases h
  · cases h; exact .inr ⟨[_], .inl ⟨rfl, rfl⟩, by simp [Shut, T.isAgg]⟩
  · cases h; exact .inr ⟨[_], .inr (.inl ⟨rfl, rfl⟩), by simp [Shut, T.isAgg]⟩
  · cases h; exact .inr ⟨[_], .inr (.inr ⟨Nat.le_refl 2, rfl⟩), by simp [Shut, T.isAgg]⟩
  · cases h

theorem opnd_ok (hr : Rel s a.tmps w S m) {c : Option K} {x : Operand} {t : T} (h : opnd s.env c x = some t) : RepV w S m t (a.eval x) := by
  cases x with
  | tmp k =>
    have : s.env k = t := by
      simp only [opnd, T.known] at h
      split at h
      · cases h
      · exact Option.some.inj h
    subst this; exact hr.env k
  | const v => exact constT_ok h
  | func f =>
    simp only [opnd] at h
    cases hb : Nat.blt f cloB with
    | false => rw [hb] at h; cases h
    | true => rw [hb] at h; cases h; exact .inr ⟨[_], ⟨[], rfl, (by rw [cloV_lt hb])⟩, by simp [Shut, T.isAgg, Act.eval]⟩
  | global g => simp [opnd] at h
end

/-! ### An operation that ends in a value -/
theorem wp_value {P : Program} {o : Oper} {a : Act} {w w' : World} {v : Value} {next : Act → World → Prop} {Q : Exit → Act → World → Prop}
    (h : (execOp a.eval o).run P w = .ok (.value v) w') (k : next (a.put o.dst v) w') : o.wp P a w next Q := by
  unfold Oper.wp; rw [h]; exact k
theorem wp_skip' {P : Program} {o : Oper} {a : Act} {w w' : World} {next : Act → World → Prop} {Q : Exit → Act → World → Prop}
    (h : (execOp a.eval o).run P w = .ok .skip w') (k : next (a.put o.dst undef) w') : o.wp P a w next Q := by
  unfold Oper.wp; rw [h]; exact k

/-- What is known behind an operation, but for its slot. -/
def After (s : St) (tm : Array Value) (w : World) (S : Cells) (m : Nat → Option MB) (mk : Bool) (dn : Nat) (t : T) (ups : Ups) (v : Value) (w' : World) : Prop :=
  ∃ S' m', RepV w' S' m' t v ∧ Rel { s with sto := upds ups s.sto, done := bif mk then (fun x => Nat.beq x dn || s.done x) else s.done } tm w' S' m' ∧
    Ext (OwnSt s.sto m) w S m w' S' m' (OwnSt (upds ups s.sto) m')

theorem After.pure {s : St} {tm : Array Value} {w : World} {S : Cells} {m : Nat → Option MB} {mk : Bool} {dn : Nat} {t : T} {v : Value} (hr : Rel s tm w S m) (h : RepV w S m t v) :
    After s tm w S m mk dn t [] v w := by
  refine ⟨S, m, h, ⟨hr.toStoRel, hr.env, fun d hd hn => hr.fresh d hd ?_, hr.top⟩, Ext.refl ..⟩
  cases mk with
  | false => exact hn
  | true => have := hn; simp at this; exact this.2

/-- An operation does what the evaluator says. -/
def Does (P : Program) (o : Oper) (a : Act) (w : World) (Post : Value → World → Prop) : Prop :=
  ∀ next Q, (∀ v w', Post v w' → next (a.put o.dst v) w') → o.wp P a w next Q
end Go.Proofs.D
