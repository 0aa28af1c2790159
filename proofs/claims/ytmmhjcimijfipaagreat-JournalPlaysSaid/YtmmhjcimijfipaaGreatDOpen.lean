/- A row's arguments, read as data; what a law's function then answers. -/
import Derived.Test.YtmmhjcimijfipaaGreatDBody
import Derived.OpenShut
import Derived.ChangeShapes
import Derived.Deep.Slices
import Derived.Carry
set_option linter.unusedVariables false
set_option linter.unusedSimpArgs false
namespace Go.Proofs.D
open Go.RowKit Go.WideShapes

/-- Data within the bounds of their types. -/
def WfE : (c : K) → El c → Prop
  | .int k, n => (Lit.int k n).wf = true
  | .bool, _ => True
  | .str, s => ByteArray.size s ≤ maxLen
  | .hdr, _ => False
  | .ref _, _ => False
  | .slice e, l => List.length l ≤ maxLen ∧ ∀ x ∈ l, WfE e x
  | .unit, _ => True
  | .cons a b, x => WfE a x.1 ∧ WfE b x.2
  | .arr n e, l => List.length l = n ∧ ∀ x ∈ l, WfE e x

/-- No reference inside; elements of slices take room. -/
def K.open : K → Bool
  | .ref _ => false | .hdr => false | .slice e => Nat.blt 0 e.size && e.open | .cons a b => a.open && b.open | .arr _ e => e.open | _ => true

/-- All cells that there are. -/
def Live (w : World) : Cells := fun b o => (w.cell? ⟨b, o, none⟩).isSome = true

section
variable {H : Type} {enc : TypeId × Value → H} {P : Program} {ty : TypeId → Option K} {w : World}

theorem listOf {α : Type} {R : Nat → α → Prop} : ∀ (n : Nat), (∀ i, i < n → ∃ x, R i x) → ∃ l : List α, l.length = n ∧ ∀ i x, l[i]? = some x → R i x
  | 0, _ => ⟨[], rfl, fun i x h => by simp at h⟩
  | n + 1, h => by
    obtain ⟨l, h1, h2⟩ := listOf n fun i hi => h i (by omega)
    obtain ⟨x, hx⟩ := h n (by omega)
    refine ⟨l ++ [x], by simp [h1], fun i y hy => ?_⟩
    by_cases hi : i < n
    · rw [List.getElem?_append_left (by omega)] at hy; exact h2 i y hy
    · rw [List.getElem?_append_right (by omega)] at hy
      have : i = n := by
        have := (List.getElem?_eq_some_iff.1 hy).1
        simp at this; omega
      subst this
      simp [h1] at hy; subst hy; exact hx

theorem repL_of {α : Type} {R : α → List Value → Prop} {n : Nat} : ∀ {l : List α} {cs : List Value}, cs.length = l.length * n → (∀ i x, l[i]? = some x → R x ((cs.drop (i * n)).take n)) → RepL R l cs
  | [], cs, h, _ => by simp at h; exact h
  | x :: l, cs, h, hx => by
    have h0 := hx 0 x rfl
    simp only [Nat.zero_mul, List.drop_zero] at h0
    refine ⟨cs.take n, cs.drop n, (List.take_append_drop n cs).symm, h0, repL_of (n := n) ?_ fun i y hy => ?_⟩
    · rw [List.length_drop, h, List.length_cons, Nat.add_mul]; omega
    · have := hx (i + 1) y (by simpa using hy)
      rwa [List.drop_drop, ← Nat.add_comm, show (i * n + n) = (i + 1) * n by rw [Nat.add_mul]; omega]

theorem open_ok (hT : ∀ t c, ty t = some c → TyOk P ty t c) : ∀ (c : K), c.open = true →
    (∀ (fuel : Nat) (t : TypeId) (cs : List Value) (x : DataW H × List MemPlace), ty t = some c → DataW.trod enc P w 0 (fun _ => true) true fuel t cs = some x → ∃ y : El c, Rep w (Live w) c y cs ∧ WfE c y) ∧
    (∀ (fuel : Nat) (fs : List Field) (off : Nat) (cs : List Value), FieldsOk ty fs c off → cs.length = off + c.size →
      (∀ f ∈ fs, ∃ x, DataW.trod enc P w 0 (fun _ => true) true fuel f.type ((cs.drop f.offset).take (P.cellsOf f.type)) = some x) → ∃ y : El c, Rep w (Live w) c y (cs.drop off) ∧ WfE c y) := by
  have hcells : ∀ t c, ty t = some c → P.cellsOf t = c.size := fun t c h => by
    obtain ⟨i, h1, h2, _⟩ := (hT t c h).info
    simp [Program.cellsOf, h1, h2]
  intro c
  induction c with
  | int k =>
    intro _
    refine ⟨fun fuel t cs x ht h => ?_, fun fuel fs off cs h => ?_⟩
    · obtain ⟨n, h1, _, h2⟩ := DataW.trod_int (hT t _ ht).desc h
      exact ⟨n, h1, h2⟩
    · cases fs <;> simp [FieldsOk] at h
  | bool =>
    intro _
    refine ⟨fun fuel t cs x ht h => ?_, fun fuel fs off cs h => ?_⟩
    · obtain ⟨b, h1, _⟩ := DataW.trod_bool (hT t _ ht).desc h
      exact ⟨b, h1, trivial⟩
    · cases fs <;> simp [FieldsOk] at h
  | str =>
    intro _
    refine ⟨fun fuel t cs x ht h => ?_, fun fuel fs off cs h => ?_⟩
    · obtain ⟨s, h1, _, h2⟩ := DataW.trod_string (hT t _ ht).desc h
      exact ⟨s, h1, h2⟩
    · cases fs <;> simp [FieldsOk] at h
  | ref r => intro h; cases h
  | hdr => intro h; cases h
  | slice e ih =>
    intro ho
    simp only [K.open, Bool.and_eq_true, Nat.blt_eq] at ho
    refine ⟨fun fuel t cs x ht h => ?_, fun fuel fs off cs h => by cases fs <;> simp [FieldsOk] at h⟩
    obtain ⟨te, h1, h2⟩ := (hT t _ ht).desc
    rcases Go.Deep.open_slice h1 h with ⟨h3, _⟩ | ⟨a, len, cap, k, n, D, Pl, h3, _, h4, h5, h6, _, h7⟩
    · exact ⟨[], ⟨none, 0, h3, Nat.le_refl _, fun i x hx => by simp at hx⟩, ⟨by simp, fun x hx => by cases hx⟩⟩
    · have hk : k = cap := by simpa using h6
      subst hk
      obtain ⟨l, l1, l2⟩ := listOf (R := fun i (y : El e) => ∃ b o cs', a = ⟨b, o, none⟩ ∧ cs'.length = e.size ∧ Stays w (Live w) b (o + i * e.size) cs' ∧ Rep w (Live w) e y cs' ∧ WfE e y) len fun i hi => by
        obtain ⟨cs', c1, c2⟩ := h7 i (by omega)
        obtain ⟨y, y1, y2⟩ := (ih ho.2).1 n te cs' _ h2 c2
        obtain ⟨_, c3, c4⟩ := World.cells?_some c1
        rw [hcells te e h2] at c3 c4
        have hspot : a.spot = none := by
          obtain ⟨c0, d1, _⟩ := h7 0 (by omega)
          obtain ⟨_, d3, d4⟩ := World.cells?_some d1
          rw [hcells te e h2] at d3 d4
          have h0 := d4 0 ho.1
          obtain ⟨v, hv⟩ : ∃ v, c0[0]? = some v := ⟨c0[0]'(by omega), List.getElem?_eq_getElem (by omega)⟩
          rw [hv] at h0
          have h0 : w.cell? a = some v := by simpa [Addr.add] using h0
          unfold World.cell? at h0
          split at h0
          · split at h0
            · cases h0
            · rename_i hs
              simpa using hs
          · cases h0
        obtain ⟨b, o, sp⟩ := a
        simp only at hspot
        subst hspot
        have each : ∀ j v, cs'[j]? = some v → w.cell? ⟨b, o + i * e.size + j, none⟩ = some v := fun j v hj => by
          have := c4 j (by have := (List.getElem?_eq_some_iff.1 hj).1; omega)
          rw [hj] at this
          simpa [Addr.add_mid] using this
        refine ⟨y, b, o, cs', rfl, c3, ⟨each, fun j hj => ?_⟩, y1, y2⟩
        unfold Live
        rw [each j _ (List.getElem?_eq_getElem hj)]; rfl
      refine ⟨l, ⟨some a, k, by rw [l1]; exact h3, by omega, fun i x hx => ?_⟩, ⟨by omega, fun x hx => ?_⟩⟩
      · obtain ⟨b, o, cs', e1, e2, e3, e4, _⟩ := l2 i x hx
        exact ⟨b, o, cs', by rw [e1], e2, e3, e4⟩
      · obtain ⟨i, hi⟩ := List.getElem?_of_mem hx
        obtain ⟨b, o, cs', _, _, _, _, e5⟩ := l2 i x hi
        exact e5
  | unit =>
    intro _
    have fields : ∀ (fuel : Nat) (fs : List Field) (off : Nat) (cs : List Value), FieldsOk ty fs .unit off → cs.length = off + K.unit.size → ∃ y : El .unit, Rep w (Live w) .unit y (cs.drop off) ∧ WfE .unit y := by
      intro fuel fs off cs h hl
      refine ⟨(), ?_, trivial⟩
      show cs.drop off = []
      rw [List.drop_eq_nil_iff, hl]; exact Nat.le_refl _
    refine ⟨fun fuel t cs x ht h => ?_, fun fuel fs off cs h hl _ => fields fuel fs off cs h hl⟩
    obtain ⟨fs, h1, h2⟩ := (hT t _ ht).desc
    obtain ⟨xs, n, _, _, h3, _⟩ := DataW.trod_struct h1 h
    obtain ⟨y, y1, y2⟩ := fields n fs.toList 0 cs h2 (by rw [h3, hcells t _ ht]; simp)
    exact ⟨y, by simpa using y1, y2⟩
  | cons a b iha ihb =>
    intro ho
    simp only [K.open, Bool.and_eq_true] at ho
    have fields : ∀ (fuel : Nat) (fs : List Field) (off : Nat) (cs : List Value), FieldsOk ty fs (.cons a b) off → cs.length = off + (K.cons a b).size →
        (∀ f ∈ fs, ∃ x, DataW.trod enc P w 0 (fun _ => true) true fuel f.type ((cs.drop f.offset).take (P.cellsOf f.type)) = some x) → ∃ y : El (.cons a b), Rep w (Live w) (.cons a b) y (cs.drop off) ∧ WfE (.cons a b) y := by
      intro fuel fs off cs h hl hf
      cases fs with
      | nil => simp [FieldsOk] at h
      | cons f fs =>
        obtain ⟨h1, h2, _, h3⟩ := h
        obtain ⟨x, hx⟩ := hf f List.mem_cons_self
        rw [h1, hcells _ _ h2] at hx
        obtain ⟨y, y1, y2⟩ := (iha ho.1).1 fuel f.type _ x h2 hx
        obtain ⟨z, z1, z2⟩ := (ihb ho.2).2 fuel fs (off + a.size) cs h3 (by rw [hl]; simp [K.size]; omega) fun g hg => hf g (List.mem_cons_of_mem _ hg)
        refine ⟨(y, z), ⟨(cs.drop off).take a.size, cs.drop (off + a.size), ?_, y1, z1⟩, y2, z2⟩
        rw [← List.drop_drop, List.take_append_drop]
    refine ⟨fun fuel t cs x ht h => ?_, fields⟩
    obtain ⟨fs, h1, h2⟩ := (hT t _ ht).desc
    obtain ⟨xs, n, _, _, h3, h4, h5⟩ := DataW.trod_struct h1 h
    obtain ⟨y, y1, y2⟩ := fields n fs.toList 0 cs h2 (by rw [h3, hcells t _ ht]; simp) fun f hf => by
      obtain ⟨i, hi⟩ := List.getElem?_of_mem hf
      rw [Array.getElem?_toList] at hi
      rw [h5 i f hi]
      have : i < xs.length := by rw [h4]; exact (Array.getElem?_eq_some_iff.1 hi).1
      exact ⟨_, List.getElem?_eq_getElem this⟩
    exact ⟨y, by simpa using y1, y2⟩
  | arr n e ih =>
    intro ho
    refine ⟨fun fuel t cs x ht h => ?_, fun fuel fs off cs h => by cases fs <;> simp [FieldsOk] at h⟩
    obtain ⟨te, h1, h2⟩ := (hT t _ ht).desc
    obtain ⟨xs, k, _, _, h3, h4, h5⟩ := DataW.trod_array h1 h
    rw [hcells te e h2] at h5
    rw [hcells t _ ht] at h3
    obtain ⟨l, l1, l2⟩ := listOf (R := fun i (y : El e) => Rep w (Live w) e y ((cs.drop (i * e.size)).take e.size) ∧ WfE e y) n fun i hi => by
      have := h5 i hi
      rw [List.getElem?_eq_getElem (by omega : i < xs.length)] at this
      exact (ih (by simpa [K.open] using ho)).1 k te _ _ h2 this
    refine ⟨l, ⟨l1, repL_of (n := e.size) (by rw [h3, l1]; rfl) fun i x hx => (l2 i x hx).1⟩, l1, fun x hx => ?_⟩
    obtain ⟨i, hi⟩ := List.getElem?_of_mem hx
    exact (l2 i x hi).2

/-- An argument, read. -/
theorem open_arg (hT : ∀ t c, ty t = some c → TyOk P ty t c) {c : K} (hc : c.open = true) {t : TypeId} (ht : ty t = some c) {r : Reach} {b0 : Nat} {v : Value} {d : DataW H} {ps : List MemPlace} {m : Nat → Option MB}
    (hval : Value.okWide P w r b0 t v) (hd : DataW.Trod enc P w 0 (fun _ => true) true t v d ps) : ∃ y : El c, WfE c y ∧ RepV w (Live w) m (.val c y) v := by
  obtain ⟨fuel, hf⟩ := hd
  obtain ⟨y, y1, y2⟩ := (open_ok hT c hc).1 fuel t _ _ ht hf
  refine ⟨y, y2, .inr ⟨v.cells.toList, y1, ?_⟩⟩
  have agg : ∀ {cs : Array Value}, v = .agg cs → c.isAgg = true → Shut (T.val c y).isAgg v.cells.toList v := fun e h => by
    subst e; simp [Shut, T.isAgg, h, Value.cells]
  have one : v.cells = #[v] → c.isAgg = false → Shut (T.val c y).isAgg v.cells.toList v := fun e h => by
    rw [e]; simp [Shut, T.isAgg, h]
  have hdesc := (hT t c ht).desc
  cases c with
  | int k => obtain ⟨n, e⟩ := okWide_int hdesc hval; exact one (by rw [e]; rfl) rfl
  | bool => obtain ⟨n, e⟩ := okWide_bool hdesc hval; exact one (by rw [e]; rfl) rfl
  | str => obtain ⟨n, e⟩ := okWide_string hdesc hval; exact one (by rw [e]; rfl) rfl
  | ref r => cases hc
  | hdr => cases hc
  | slice e => obtain ⟨te, h1, _⟩ := hdesc; obtain ⟨a, l, k, e⟩ := okWide_slice h1 hval; exact one (by rw [e]; rfl) rfl
  | unit => obtain ⟨fs, h1, _⟩ := hdesc; simp only [Value.okWide, h1] at hval; obtain ⟨cs, e, _⟩ := hval; exact agg e rfl
  | cons a b => obtain ⟨fs, h1, _⟩ := hdesc; simp only [Value.okWide, h1] at hval; obtain ⟨cs, e, _⟩ := hval; exact agg e rfl
  | arr n e => obtain ⟨te, h1, _⟩ := hdesc; simp only [Value.okWide, h1] at hval; obtain ⟨cs, e, _⟩ := hval; exact agg e rfl

/-- **A law's function answers true, and nothing that there was turns.** -/
theorem law_calls {f : FuncId} {fn : Func} {args : Sk} {F : SkEl args × ObsEl [] → Option (ResEl (.val .bool) [])} (hs : Sound P f { args := args, objs := [], ret := .val .bool, outs := [], F := F })
    (hf : P.funcs[f]? = some fn) (hname : (fn.name == "runtime.NumGoroutine") = false) (hbody : fn.body.isNone = false)
    {x : SkEl args} {vals : List Value} (ha : RepC w (Live w) (fun _ => none) (fill args x) vals) (hF : F (x, ()) = some true) :
    Calls P f vals.toArray w fun e w' => e = .returned (.bool true) ∧ Below w.heap.size w w' := by
  have hcall : (callFunc f vals.toArray).run P w = .ok (.enter f vals.toArray) w := by
    have g1 : fn.name ≠ "runtime.NumGoroutine" := by simpa using hname
    have g2 : fn.body ≠ none := fun e => by rw [e] at hbody; cases hbody
    simp [callFunc, Sem.run_bind, hf, g1, g2]
  have hst : StoRel (objs0 (fillOs [] ())) w (Live w) (fun _ => none) := by
    refine ⟨fun i o h => ?_, fun i j o p u v _ h => ?_, fun i o u h => ?_, fun b y h => ?_⟩
    · cases h
    · cases h
    · cases h
    · obtain ⟨v, hv⟩ := Option.isSome_iff_exists.1 h
      exact cell_lt hv
  have hrel : Rel { env := fun _ => .any 0, sto := objs0 (fillOs [] ()), done := fun _ => false } #[] w (Live w) (fun _ => none) :=
    ⟨hst, fun t => .inl rfl, fun d _ _ => ⟨rfl, fun _ _ => rfl⟩, fun i _ => rfl⟩
  have := hs w (Live w) (fun _ => none) (x, ()) true vals hF ha hrel fun _ _ => rfl
  rw [hcall] at this
  have this : Calls P f vals.toArray w _ := this
  refine this.mono fun e w' ⟨v, he, S', m', k1, k2, k3, k4⟩ => ?_
  subst he
  have k1 : RepV w' S' m' (.val .bool true) v := k1
  rw [repV_bool k1]
  refine ⟨rfl, k4.os, k4.tape.1, k4.output, k4.size, fun k hk => k4.block k hk fun y q => ?_⟩
  obtain ⟨i, o, u, h, _⟩ := q
  cases h
end
end Go.Proofs.D
