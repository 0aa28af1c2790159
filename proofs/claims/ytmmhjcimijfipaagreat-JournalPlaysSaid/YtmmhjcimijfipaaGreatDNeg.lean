/- slices.Backward; op.Neg, that ranges over it. -/
import Derived.Test.YtmmhjcimijfipaaGreatDBack
set_option linter.unusedVariables false
set_option linter.unusedSimpArgs false
namespace Go.Proofs.D
open Go.RowKit

def noMaps (O : List (Nat × Obj)) : Bool := O.all fun p => !p.2.isMap

section
variable {P : Program} {C C1 : Ctx} {s s' : St} {a a' : Act} {w w' : World} {S S' : Cells} {m m' : Nat → Option MB} {O0 : Cells} {w0 : World} {S0 : Cells} {m0 : Nat → Option MB} {lr : Option Nat} {n : Nat} {E : List (Nat × T)} {O : List (Nat × Obj)} {d : List Nat}

theorem noMaps_at (h : noMaps O = true) : ∀ i o, (mkS E O d).sto i = some o → o.isMap = false := fun i o ho => by
  have := List.all_eq_true.1 h _ (stoL_mem ho)
  simpa using this

/-- What is owned are cells. -/
theorem At.notOwn (h : At C 0 O0 w0 S0 m0 s a w S m) (hm : ∀ i o, s.sto i = some o → o.isMap = false) {b : Nat} {o : Go.Obj} (hb : w.heap[b]? = some o) (hc : o.isCells = false) : ∀ x, ¬ OwnSt s.sto m b x := by
  rintro x ⟨i, ob, u, h1, h2, h3⟩
  obtain ⟨u', k1, k2⟩ := h.rel.sto i ob h1
  rw [h2] at k1; cases k1
  have hv : ∃ v, w.cell? ⟨b, x, none⟩ = some v := by
    cases ob with
    | cell c fz t =>
      obtain ⟨-, -, hf, cs, g1, g2, -⟩ := k2
      obtain ⟨-, q, g3, g4⟩ := h3
      subst q
      have hl := RepC.length hf g2
      exact ⟨cs[x - u.o]'(by omega), by have := g1 _ _ (List.getElem?_eq_getElem (l := cs) (i := x - u.o) (by omega)); rwa [show u.o + (x - u.o) = x by omega] at this⟩
    | row e sh l =>
      obtain ⟨A, cap, -, -, -, -, -, -, g2⟩ := k2
      have q : b = u.b := by obtain ⟨n, cap, a, _, q, _⟩ := h3; exact q
      subst q
      exact Option.isSome_iff_exists.1 (g2 x h3).1
    | map kc vc es => have := hm i _ h1; cases this
  obtain ⟨v, hv⟩ := hv
  unfold World.cell? at hv
  rw [hb] at hv
  cases o <;> simp_all [Go.Obj.isCells]

theorem At.regionK (hC : CtxOk P C1) (hn : C1.n = C.n) {L : List Deferred} {Q : Exit → Act → World → Prop} {id : Nat} {ops : Array Oper} {E' : List (Nat × T)} {O' : List (Nat × Obj)} {d' ke ko : List Nat}
    (h : At C 0 O0 w0 S0 m0 (mkS E O d) a w S m) (hm : noMaps O = true) (he : evalReg C1 false ops.toList (mkS E O d) (fun sF => some (facts ke ko sF)) = some (told E' O' d')) (hke : E'.map (·.1) = ke) (hko : O'.map (·.1) = ko)
    (hQ : ∀ a' w' S' m', At C 0 O0 w0 S0 m0 (mkS E' O' d') a' w' S' m' → Keeps w S w' S' → (∀ i u, m i = some u → m' i = some u) → (∀ (b : Nat) (o : Go.Obj), w.heap[b]? = some o → o.isCells = false → w'.heap[b]? = some o) → Q .normal (withD L a') w') :
    (Code.region id ops false).wpIn (Fr lr) n P Q (withD L a) w :=
  At.regionIn hC hn h hke hko he fun a' w' S' m' h1 h2 h3 h4 _ => hQ a' w' S' m' h1 h2 h3 fun b o hb hc =>
    (h4.block b (Array.getElem?_eq_some_iff.1 hb).1 (h.notOwn (noMaps_at hm) hb hc)).trans hb

/-- Objects get other numbers, the slots are told anew. -/
theorem At.renum (h : At C 0 O0 w0 S0 m0 s a w S m) {E' : List (Nat × T)} {O' : List (Nat × Obj)} {d' : List Nat} (f : Nat → Nat) {ks : List Nat} (hks : O'.map (·.1) = ks) (hinj : ∀ i ∈ ks, ∀ j ∈ ks, f i = f j → i = j)
    (hs : ∀ p ∈ O', ∃ o, s.sto (f p.1) = some o ∧ m' p.1 = m (f p.1) ∧ (∀ u, ObjOk w S m u o → ObjOk w S m' u p.2) ∧ (∀ u b x, Own u p.2 b x → Own u o b x)) (hT : TmOk C a') (henv : ∀ p ∈ E', RepV w S m' p.2 (a'.tmps.getD p.1 undef)) (hbig : ∀ i, 1000 ≤ i → m' i = none) : At C 0 O0 w0 S0 m0 (mkS E' O' d') a' w S m' := by
  have hs' : ∀ i o, (mkS E' O' d').sto i = some o → ∃ o', s.sto (f i) = some o' ∧ m' i = m (f i) ∧ (∀ u, ObjOk w S m u o' → ObjOk w S m' u o) ∧ (∀ u b x, Own u o b x → Own u o' b x) := fun i o ho => hs (i, o) (stoL_mem ho)
  refine ⟨⟨⟨fun i o ho => ?_, fun i j o p u v hij ho hp hu hv b x hx hy => ?_, fun i o u ho hu b x hb hx => ?_, h.rel.live⟩, env_of henv, fun d _ _ => ⟨hbig _ (by omega), fun k _ => hbig _ (by omega)⟩, fun i hi => hbig i (by omega)⟩, hT,
    h.ext.sub fun b x ⟨i, o, u, h1, h2, h3⟩ => ?_, fun i u hi => absurd hi (Nat.not_lt_zero _)⟩
  · obtain ⟨o', k1, k2, k3, k4⟩ := hs' i o ho
    obtain ⟨u, g1, g2⟩ := h.rel.sto _ _ k1
    exact ⟨u, by rw [k2]; exact g1, k3 u g2⟩
  · obtain ⟨o', k1, k2, k3, k4⟩ := hs' i o ho
    obtain ⟨p', l1, l2, l3, l4⟩ := hs' j p hp
    exact h.rel.apart (f i) (f j) o' p' u v (fun e => hij (hinj _ (hks ▸ List.mem_map_of_mem (stoL_mem ho)) _ (hks ▸ List.mem_map_of_mem (stoL_mem hp)) e)) k1 l1 (by rw [← k2]; exact hu) (by rw [← l2]; exact hv) b x (k4 u b x hx) (l4 v b x hy)
  · obtain ⟨o', k1, k2, k3, k4⟩ := hs' i o ho
    exact h.rel.stab (f i) o' u k1 (by rw [← k2]; exact hu) b x hb (k4 u b x hx)
  · obtain ⟨o', k1, k2, k3, k4⟩ := hs' i o h1
    exact ⟨f i, o', u, k1, by rw [← k2]; exact h2, k4 u b x h3⟩

end

/-! ### op.Neg -/
abbrev eOp (kk : K) : K := .cons kk (.cons (.int .i64) .unit)
def b2 (f : Func) (i : Nat) : Oper := (rops (bodyOf f) 2).toList.getD i default
def nEnd (C : Ctx) (fn : Func) (ret : Sk) (outs : List ObSk) (s' : St) : Option (ResEl ret outs) := match resT C s' fn.results.toList with
  | none => none
  | some l => (unT s'.sto 100000000 ret (tup1 l) (idBindsG outs ([] : List ObSk).length, [])).bind fun v =>
    (unOs s'.sto 100000000 outs 0 v.2).bind fun w => bif distinct w.2.1.ids && keysB w.2.1 && flagsOk (upds w.2.2 s'.sto) w.2.1 0 outs && (Nat.ble ([] : List ObSk).length 1000 && keysG outs ([] : List ObSk).length w.2.1) then some (mkRes ret outs v.1 w.1) else none

section
variable {P : Program} {C : Ctx}

end
end Go.Proofs.D
