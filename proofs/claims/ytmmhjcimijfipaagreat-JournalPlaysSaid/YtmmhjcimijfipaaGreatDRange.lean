/- Inside a range over a function: regions in a round's frame; what is known lives on where the loop's own blocks turn; slices.Backward's function. -/
import Derived.Test.YtmmhjcimijfipaaGreatDGiven
import Derived.RangeFuncLeaves
import Derived.RangeFuncRecord
import Derived.RangeFuncFrom
import Derived.Laws.AppendOwn
set_option linter.unusedVariables false
set_option linter.unusedSimpArgs false
namespace Go.Proofs.D
open Go.RowKit

/-- The fence that asks nothing, in an activation's frame or in a round's. -/
def Fr (l : Option Nat) : Fence := { fn := fun _ => True, depth := none, alive := false, round := l }

section
variable {P : Program} {C C1 : Ctx} {s s' : St} {a a' : Act} {w w' : World} {S S' : Cells} {m m' : Nat → Option MB} {O0 : Cells} {w0 : World} {S0 : Cells} {m0 : Nat → Option MB} {lr : Option Nat} {n : Nat} {R : Type} {r : R} {o : Oper} {κ : T → Ups → Option R}

theorem fenced_fr (m : Machine) : m.fenced P (Fr lr) := fenced_wide P m
theorem callsIn_fr {f : FuncId} {args : Array Value} {Q : Ending → World → Prop} : CallsIn (Fr lr) n P f args w Q ↔ Calls P f args w Q := callsIn_wide (n := n)
theorem rowsIn_fr {row : String} {args : Array Value} {Q : Value → World → Prop} (h : Rows P row args w Q) : RowsIn (Fr lr) n P row args w Q := fun c cs _ =>
  let ⟨v, w', r, s⟩ := h c cs
  ⟨v, w', r, (StepsIn.of_steps s).mono fun m _ => fenced_fr m⟩

def withD (L : List Deferred) (a : Act) : Act := { tmps := a.tmps, defers := L }
theorem withD_put {L : List Deferred} (d : Option Tmp) (v : Value) : (withD L a).put d v = withD L (a.put d v) := by cases d <;> rfl
theorem withD_self (h : a.defers = []) : withD [] a = a := by cases a; simp only at h; subst h; rfl

theorem oper_in {L : List Deferred} {next : Act → World → Prop} {Q : Exit → Act → World → Prop} (hnd : ∀ c, o.op ≠ .defer c) (hd : a.defers = [])
    (h : o.wp P a w (fun a' w' => a'.defers = [] ∧ next (withD L a') w') (fun _ _ _ => False)) : o.wpIn (Fr lr) n P (withD L a) w next Q := by
  refine ⟨fun _ _ => trivial, ?_⟩
  rw [Oper.semAt_eq _ _ _ hnd]
  unfold Oper.wp at h
  have he : (withD L a).eval = a.eval := by funext x; cases x <;> rfl
  rw [he]
  generalize (execOp a.eval o).run P w = res at h ⊢
  cases res with
  | ok x w1 =>
    cases x with
    | value v => exact by rw [Oper.uponIn_value, withD_put]; exact h.2
    | skip => exact by rw [Oper.uponIn_skip, withD_put]; exact h.2
    | defer d =>
      have h1 := h.1
      cases hd' : o.dst <;> (rw [hd'] at h1; simp [Act.put] at h1)
    | enter f args =>
      rw [Oper.uponIn_enter]
      refine ⟨(fun q => by cases q), (callsIn_fr.2 h).mono fun e w2 q => ?_⟩
      cases e with
      | returned v =>
        show next ((withD L a).put o.dst v) w2
        rw [withD_put]; exact q.2
      | panicked ch => exact q.elim
      | outgrown => obtain ⟨_, _, q⟩ := q; exact q.elim
    | row row args =>
      rw [Oper.uponIn_row]
      refine ⟨(fun q => by cases q), (rowsIn_fr h).mono fun v w2 q => ?_⟩
      rw [withD_put]; exact q.2
    | _ => exact h.elim
  | halt x w1 => cases x <;> exact h.elim

/-- The slots that operations do not write. -/
def Same (a a' : Act) (l : List Oper) : Prop := ∀ t, l.all (fun o => decide (o.dst ≠ some t)) = true → a'.tmps.getD t undef = a.tmps.getD t undef
theorem Same.nil (a : Act) (l : List Oper) : Same a a l := fun _ _ => rfl
theorem put_other {d : Option Tmp} {t : Nat} {v : Value} (h : d ≠ some t) : (a.put d v).tmps.getD t undef = a.tmps.getD t undef := by
  cases d with
  | none => rfl
  | some d =>
    have : d ≠ t := fun e => h (by rw [e])
    simp only [Act.put, Array.getD_eq_getD_getElem?, Array.getElem?_setIfInBounds_ne this]
theorem Same.cons {l : List Oper} {v : Value} (h : Same (a.put o.dst v) a' l) : Same a a' (o :: l) := fun t ht => by
  simp only [List.all_cons, Bool.and_eq_true, decide_eq_true_eq] at ht
  rw [h t (by simpa using ht.2)]; exact put_other ht.1

theorem wp_one' (hC : CtxOk P C) (hr : Rel s a.tmps w S m) (hT : TmOk C a) {Q : Exit → Act → World → Prop} {next : Act → World → Prop} {ops : Array Oper} (hst : stepOk C o s = true) (he : evalOp C o s.env s.sto κ = some r) :
    ∃ t ups, κ t ups = some r ∧ ((∀ v w' S' m', Rel (s.step o t ups) (a.put o.dst v).tmps w' S' m' → TmOk C (a.put o.dst v) → Ext (OwnSt s.sto m) w S m w' S' m' (OwnSt (s.step o t ups).sto m') → next (a.put o.dst v) w') → o.wp P a w next Q) := by
  obtain ⟨t, ups, hk, hd⟩ := ok_op hC hr hst he
  refine ⟨t, ups, hk, fun h => hd next Q fun v w' ha => ?_⟩
  have hlt : ∀ e, o.dst = some e → e < a.tmps.size := fun e q => by
    simp only [stepOk, q, Bool.and_eq_true, Nat.blt_eq] at hst
    rw [hT.1]; exact hst.1
  obtain ⟨S', m', h1, h2⟩ := ha.put hlt
  exact h v _ S' m' h1 (hT.put _ _) h2

theorem evalOps_in (hC : CtxOk P C) {L : List Deferred} {Q : Exit → Act → World → Prop} {ops : Array Oper} {all : List Oper} (hall : ops.toList = all) {κ : St → Option R} {rest : List Nat} : ∀ (l : List Oper) (k : Nat), (∀ j x, l[j]? = some x → ops[k + j]? = some x) → ∀ {s : St} {a : Act} {w : World} {S : Cells} {m : Nat → Option MB},
    Rel s a.tmps w S m → TmOk C a → evalOps C all l s κ = some r →
    (∀ s' a' w' S' m', κ s' = some r → Rel s' a'.tmps w' S' m' → TmOk C a' → Ext (OwnSt s.sto m) w S m w' S' m' (OwnSt s'.sto m') → Same a a' l → wpOpsIn (Fr lr) n P ops Q rest (withD L a') w') →
    wpOpsIn (Fr lr) n P ops Q (List.range' k l.length ++ rest) (withD L a) w
  | [], k, _, s, a, w, S, m, hr, hT, he, h => h s a w S m he hr hT (Ext.refl ..) (fun _ _ => rfl)
  | o :: l, k, hl, s, a, w, S, m, hr, hT, he, h => by
    have ho : ops[k]? = some o := hl 0 o rfl
    have hl' : ∀ j x, l[j]? = some x → ops[k + 1 + j]? = some x := fun j x q => by have := hl (j + 1) x (by simpa using q); rwa [show k + (j + 1) = k + 1 + j by omega] at this
    simp only [List.length_cons, List.range'_succ, List.cons_append, wpOpsIn, ho]
    simp only [evalOps] at he
    have et : (withD L a).tmps = a.tmps := rfl
    rw [et]
    rcases guardK_inv he with ⟨hg, he⟩ | ⟨hg, he⟩
    · have hw := hg.wanted hall hr
      simp only [hw, if_true]
      obtain ⟨hst, he⟩ := bif_some he
      have hnd : ∀ c, o.op ≠ .defer c := fun c hop => by simp [evalOp, hop] at he
      obtain ⟨t, ups, hk, hh⟩ := wp_one' hC hr hT (ops := ops) (Q := fun _ _ _ => False) (next := fun a' w' => a'.defers = [] ∧ wpOpsIn (Fr lr) n P ops Q (List.range' (k + 1) l.length ++ rest) (withD L a') w') hst he
      exact oper_in hnd hT.2 (hh fun v w' S' m' h1 h2 h3 => ⟨h2.2, evalOps_in hC hall l (k + 1) hl' h1 h2 hk fun s2 a2 w2 S2 m2 g1 g2 g3 g4 g5 => h s2 a2 w2 S2 m2 g1 g2 g3 (h3.trans g4) g5.cons⟩)
    · have hw := hg.wanted hall hr
      simp only [hw]
      have hr2 : Rel (skip o s) (a.put o.dst undef).tmps w S m := by rw [skip_env]; exact hr.skip _
      have es : OwnSt (skip o s).sto m = OwnSt s.sto m := by rw [skip_env]
      refine ⟨fun _ _ => trivial, ?_⟩
      rw [withD_put]
      exact evalOps_in hC hall l (k + 1) hl' hr2 (hT.put _ _) he fun s2 a2 w2 S2 m2 g1 g2 g3 g4 g5 => h s2 a2 w2 S2 m2 g1 g2 g3 (by rw [es] at g4; exact g4) g5.cons

theorem region_in (hC : CtxOk P C) {L : List Deferred} {Q : Exit → Act → World → Prop} {id : Nat} {ops : Array Oper} {κ : St → Option R} (hr : Rel s a.tmps w S m) (hT : TmOk C a) (he : evalReg C false ops.toList s κ = some r)
    (hQ : ∀ s' a' w' S' m', κ s' = some r → Rel s' a'.tmps w' S' m' → TmOk C a' → Ext (OwnSt s.sto m) w S m w' S' m' (OwnSt s'.sto m') → Same a a' ops.toList → Q .normal (withD L a') w') : (Code.region id ops false).wpIn (Fr lr) n P Q (withD L a) w := by
  refine wpIn_region ?_
  have := evalOps_in (P := P) (lr := lr) (n := n) (L := L) (Q := Q) hC (rfl : ops.toList = ops.toList) (rest := []) ops.toList 0 (fun j x q => by rw [Nat.zero_add, ← Array.getElem?_toList]; exact q) hr hT he hQ
  rwa [Array.length_toList, List.append_nil, ← List.range_eq_range'] at this

theorem At.regionIn (hC : CtxOk P C1) (hn : C1.n = C.n) {L : List Deferred} {Q : Exit → Act → World → Prop} {id : Nat} {ops : Array Oper} {E' : List (Nat × T)} {O' : List (Nat × Obj)} {d' ke ko : List Nat}
    (h : At C 0 O0 w0 S0 m0 s a w S m) (hke : E'.map (·.1) = ke) (hko : O'.map (·.1) = ko) (he : evalReg C1 false ops.toList s (fun sF => some (facts ke ko sF)) = some (told E' O' d'))
    (hQ : ∀ a' w' S' m', At C 0 O0 w0 S0 m0 (mkS E' O' d') a' w' S' m' → Keeps w S w' S' → (∀ i u, m i = some u → m' i = some u) → Ext (OwnSt s.sto m) w S m w' S' m' (OwnSt (mkS E' O' d').sto m') → Same a a' ops.toList → Q .normal (withD L a') w') : (Code.region id ops false).wpIn (Fr lr) n P Q (withD L a) w := by
  have hT : TmOk C1 a := ⟨h.tm.1.trans hn.symm, h.tm.2⟩
  refine region_in hC h.rel hT he fun s' a' w' S' m' k1 k2 k3 k4 k5 => ?_
  simp only [facts, told, Option.some.injEq, Prod.mk.injEq] at k1
  obtain ⟨g1, g2, g3⟩ := k1
  subst hke; subst hko
  rw [List.map_map] at g1 g2
  have hs : ∀ i o, (mkS E' O' d').sto i = some o → s'.sto i = some o := stoL_le (map_at (f := s'.sto ∘ fun p : Nat × Obj => p.1) (g := fun p => some p.2) g2)
  have hr' : Rel (mkS E' O' d') a'.tmps w' S' m' := k2.weaken (envL_or (map_at (f := s'.env ∘ fun p : Nat × T => p.1) (g := fun p => p.2) g1)) hs
    (fun x hx => by rw [g3]; exact hx)
  have hx : Ext (OwnSt s.sto m) w S m w' S' m' (OwnSt (mkS E' O' d').sto m') := k4.sub fun b x => OwnSt.weaken hs
  exact hQ a' w' S' m' (h.step hr' ⟨k3.1.trans hn, k3.2⟩ hx) (Keeps.of_ext h.rel.toStoRel hx) hx.maps hx k5

/-! ### The loop's own blocks turn -/
structure Gr (w w' : World) (row : Option Nat) : Prop extends w.grownBy w' row where
  drawn : w.drawn ≤ w'.drawn
theorem Gr.putObj (w : World) (l : Nat) (o : Go.Obj) : Gr w (w.putObj l o) (some l) := ⟨grownBy_putObj' w l o, Nat.le_refl _⟩
theorem Gr.tape' {w w' : World} {row : Option Nat} (h : Gr w w' row) : Tape w w' := ⟨h.tape, h.drawn⟩
def Obj.isMap : Obj → Bool | .map _ _ _ => true | _ => false

theorem grown_cell {row : Option Nat} (hg : Gr w w' row) (hr : ∀ r, row = some r → ∃ o, w.heap[r]? = some o ∧ o.isCells = false) {b x : Nat} {v : Value} (hv : w.cell? ⟨b, x, none⟩ = some v) :
    w'.heap[b]? = w.heap[b]? := by
  refine hg.block b (cell_lt hv) fun e => ?_
  obtain ⟨o, ho, hc⟩ := hr b e.symm
  unfold World.cell? at hv
  rw [ho] at hv
  cases o <;> simp_all [Go.Obj.isCells]

theorem At.grown {row : Option Nat} (h : At C 0 O0 w0 S0 m0 s a w S m) (hm : ∀ i o, s.sto i = some o → o.isMap = false) (hg : Gr w w' row)
    (hr : ∀ r, row = some r → w0.heap.size ≤ r ∧ ∃ o, w.heap[r]? = some o ∧ o.isCells = false) : At C 0 O0 w0 S0 m0 s a w' S m := by
  have hr' : ∀ r, row = some r → ∃ o, w.heap[r]? = some o ∧ o.isCells = false := fun r e => (hr r e).2
  have hk : Keeps w S w' S := ⟨fun _ _ q => q, fun b o v _ hv => by rw [World.cell?_of_block (a := ⟨b, o, none⟩) (grown_cell hg hr' hv)]; exact hv⟩
  have hown : ∀ i o u b x, s.sto i = some o → ObjOk w S m u o → Own u o b x → w'.heap[b]? = w.heap[b]? := fun i o u b x hs ho hx => by
    cases o with
    | cell c fz t =>
      obtain ⟨-, -, hf, cs, h1, h2, -⟩ := ho
      obtain ⟨-, hb, h3, h4⟩ := hx
      subst hb
      have hl := RepC.length hf h2
      obtain ⟨v, hv⟩ : ∃ v, cs[x - u.o]? = some v := ⟨cs[x - u.o]'(by omega), List.getElem?_eq_getElem (by omega)⟩
      exact grown_cell hg hr' (h1 _ v hv)
    | row e sh l =>
      obtain ⟨A, cap, -, -, -, -, -, -, h2⟩ := ho
      have hb : b = u.b := by obtain ⟨n, cap, a, _, hb, _⟩ := hx; exact hb
      subst hb
      obtain ⟨v, hv⟩ := Option.isSome_iff_exists.1 (h2 x hx).1
      exact grown_cell hg hr' hv
    | map kc vc es => have := hm i _ hs; cases this
  refine ⟨⟨⟨fun i o ho => ?_, h.rel.apart, h.rel.stab, fun b x hs => Nat.lt_of_lt_of_le (h.rel.live b x hs) hg.size⟩, fun t => (h.rel.env t).keep hk fun _ _ q => q, h.rel.fresh, h.rel.top⟩, h.tm, ?_, h.keep⟩
  · obtain ⟨u, h1, h2⟩ := h.rel.sto i o ho
    refine ⟨u, h1, h2.keep hk (fun _ _ q => q) (fun b x hx => ?_) (fun hx => hown i o u _ _ ho h2 (hx 0))⟩
    have := hown i o u b x ho h2 hx
    exact ⟨World.cell?_of_block (a := ⟨b, x, none⟩) this, World.frozen?_of_block (a := ⟨b, x, none⟩) this⟩
  · have e := h.ext
    have hb : ∀ b, b < w0.heap.size → w'.heap[b]? = w.heap[b]? := fun b hb => hg.block b (Nat.lt_of_lt_of_le hb e.size) fun q => by have := (hr b q.symm).1; omega
    exact ⟨hg.os.trans e.os, e.tape.trans hg.tape', hg.output.trans e.output, Nat.le_trans e.size hg.size, e.maps, e.more, e.less, e.own,
      fun b x h1 h2 => by
        have := e.cell b x h1 h2
        rw [World.cell?_of_block (a := ⟨b, x, none⟩) (hb b h1), World.frozen?_of_block (a := ⟨b, x, none⟩) (hb b h1)]; exact this,
      fun b h1 h2 => (hb b h1).trans (e.block b h1 h2)⟩

/-- What is known of slots alone. -/
theorem At.bare (hl : ∀ b x, S b x → b < w.heap.size) (hT : TmOk C a) {E : List (Nat × T)} (hE : ∀ p ∈ E, RepV w S (fun _ => none) p.2 (a.tmps.getD p.1 undef)) : At C 0 (fun _ _ => False) w S (fun _ => none) (mkS E [] []) a w S (fun _ => none) :=
  ⟨⟨⟨fun i o h => by (cases h), fun i j o p u v _ h => by (cases h), fun i o u h => by (cases h), hl⟩, env_of hE, fun d _ _ => ⟨rfl, fun _ _ => rfl⟩, fun _ _ => rfl⟩, hT,
    (Ext.refl (fun _ _ => False) w S (fun _ => none)).sub fun b x ⟨i, o, u, h, _⟩ => by (cases h), fun i u _ h => h⟩
/-- Where nothing is owned, the world has but grown. -/
theorem Ext.grownBy {O' : Cells} (h : Ext (fun _ _ => False) w S m w' S' m' O') : Gr w w' none := ⟨⟨h.os, h.tape.1, h.output, h.size, fun k hk _ => h.block k hk fun _ q => q⟩, h.tape.2⟩
theorem grown_keeps {S : Cells} (hg : Gr w w' none) : Keeps w S w' S :=
  ⟨fun _ _ q => q, fun b o v _ hv => by rw [World.cell?_of_block (a := ⟨b, o, none⟩) (grown_cell hg (fun r e => by cases e) hv)]; exact hv⟩
end
end Go.Proofs.D
