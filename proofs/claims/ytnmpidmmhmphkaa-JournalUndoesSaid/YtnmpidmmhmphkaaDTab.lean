/- A table's keys, in order: slices.SortedFunc(maps.Keys(t.rows), cmp) behind a pointer. -/
import Derived.Test.YtnmpidmmhmphkaaDKey8
set_option linter.unusedVariables false
set_option linter.unusedSimpArgs false
namespace Go.Proofs.D
open Go.RowKit Go.Sort

section
variable {P : Program}

def tabK : K := .cons (.ref 1) .unit
def tabSk (r : Nat) : ObSk := .cell tabK (.pair (.mapr r) (.val .unit))
def tabKeysF (kk vc : K) (le : El kk → El kk → Bool) (es : List (El kk × El vc)) : Option (List (El kk) × (Unit × Unit) × List (El kk × El vc) × Unit) :=
  bif Nat.ble es.length 4294967296 then some ((es.map (·.1)).mergeSort le, (((), ()), (es, ()))) else none

def TabRun (P : Program) (f gf : FuncId) (mt : TypeId) (kk : K) (le : El kk → El kk → Bool) : Prop :=
  ∀ (w : World) (S : Cells) (b o r : Nat) (ok : List (El kk) → Prop) (N : Nat), w.cell? ⟨b, o, none⟩ = some (.map (some r)) → KGives P gf (.pointer (some ⟨w.heap.size, 0, none⟩)) kk ok N (w.alloc (.cells #[.map (some r)] mt)) → (∀ b x, S b x → b < (w.alloc (.cells #[.map (some r)] mt)).heap.size) → N ≤ 4294967296 → (∀ ks, ok ks → ks.length ≤ N) →
    Calls P f #[.pointer (some ⟨b, o, none⟩)] w fun e w' => ∃ v ks S', e = .returned v ∧ ok ks ∧ RepV w' S' (fun _ => none) (.val (.slice kk) (ks.mergeSort le)) v ∧ Ext (fun _ _ => False) (w.alloc (.cells #[.map (some r)] mt)) S (fun _ => none) w' S' (fun _ => none) (fun _ _ => False) ∧ ∀ b x, S' b x → b < w'.heap.size

theorem tab_cell {w : World} {S : Cells} {m : Nat → Option MB} {u : MB} {i : Nat} {cs : List Value} (hr : w.rangeAt u.b u.o cs) (h : RepC w S m (.pair (.mapr i) (.val .unit ())) cs) : ∃ u1, m i = some u1 ∧ w.cell? ⟨u.b, u.o, none⟩ = some u1.hv := by
  obtain ⟨c1, c2, e, h1, h2⟩ := h
  obtain ⟨u', hu', e', _⟩ := h1
  refine ⟨u', hu', ?_⟩
  have := hr 0 u'.hv (by rw [e, e']; rfl)
  simpa using this

theorem tabkeys_sound {C2 : Ctx} {f gf : FuncId} {fn fg : Func} {kk vc : K} {mt tk tv : TypeId} {ts : Array TypeId} {cmp : El kk → El kk → Int} (hf : P.funcs[f]? = some fn) (hname : (fn.name == "runtime.NumGoroutine") = false) (hbody : fn.body.isNone = false) (hC2 : CtxOk P C2) (B : KitFacts P C2 gf fg kk mt tk tv ts) (hfl : kk.flat = true)
    (hO : SWO (ltOf cmp)) (hT : ∀ x y, ltOf cmp x y = false → ltOf cmp y x = false → x = y) (hin : Inhabited (El kk)) (hrun : TabRun P f gf mt kk (leOf cmp)) :
    Sound P f { args := .tc (.ptr 0) .tn, objs := [tabSk 1, .map kk vc], ret := .val (.slice kk), outs := [tabSk 1, .map kk vc], F := fun x => tabKeysF kk vc (leOf cmp) x.2.2.1 } := by
  intro w S m x y vals hy hargs hrel hbig
  obtain ⟨_, ⟨z1, z2⟩, es, _⟩ := x
  obtain ⟨v1, r1, e1, a1, ha⟩ := hargs
  have ha : r1 = [] := ha
  subst ha; subst e1
  have hy : tabKeysF kk vc (leOf cmp) es = some y := hy
  unfold tabKeysF at hy
  obtain ⟨hle, hy⟩ := bif_some hy
  have hle := Nat.le_of_ble_eq_true hle
  cases hy
  obtain ⟨u0, hu0, hob0⟩ := hrel.toStoRel.sto 0 _ rfl
  obtain ⟨u1, hu1, hob1⟩ := hrel.toStoRel.sto 1 _ rfl
  obtain ⟨g0, _, _, cs, g1, g2, _⟩ := hob0
  obtain ⟨k0, _, fs, clock, k1, k2, k3⟩ := hob1
  obtain ⟨u1', hu1', hcell⟩ := tab_cell g1 g2
  rw [hu1] at hu1'; cases hu1'
  rw [k0] at hcell
  obtain ⟨u, q1, q2⟩ := repV_ptr a1
  rw [hu0] at q1; cases q1
  have hoff : offK u0.code [] = 0 := by cases u0.code <;> rfl
  rw [hoff, Nat.add_zero] at q2
  subst q2
  have hal := Gr.alloc w (.cells #[.map (some u1.b)] mt)
  have hbx : (w.alloc (.cells #[.map (some u1.b)] mt)).cell? ⟨w.heap.size, 0, none⟩ = some (.map (some u1.b)) := by
    unfold World.cell?
    rw [heap_alloc_new]; rfl
  have hkg := kgives hC2 B hfl (k2.keep (grown_keeps hal)) k3 ((hal.block _ (Array.getElem?_eq_some_iff.1 k1).1 (by simp)).trans k1) hbx
  have hcall : (callFunc f [.pointer (some ⟨u0.b, u0.o, none⟩)].toArray).run P w = .ok (.enter f [.pointer (some ⟨u0.b, u0.o, none⟩)].toArray) w := by
    have g1 : fn.name ≠ "runtime.NumGoroutine" := by simpa using hname
    have g2 : fn.body ≠ none := fun e => by rw [e] at hbody; cases hbody
    simp [callFunc, Sem.run_bind, hf, g1, g2]
  rw [hcall]
  show Calls P f #[.pointer (some ⟨u0.b, u0.o, none⟩)] w _
  refine (hrun w S u0.b u0.o u1.b _ _ hcell hkg (fun b x q => Nat.lt_of_lt_of_le (hrel.live b x q) hal.size) hle (fun ks hp => by have q := hp.length_eq; rw [List.length_map] at q; exact Nat.le_of_eq q)).mono ?_
  rintro en w' ⟨v, ks, S3, rfl, hperm, hv, hx, hlive⟩
  have hsort : ks.mergeSort (leOf cmp) = (es.map (·.1)).mergeSort (leOf cmp) := sort_perm hO hT hperm
  rw [hsort] at hv
  have hA : At { ty := fun _ => none, sigs := fun _ => [], n := 0, mp := fun _ => none } 0 (OwnSt (objs0 (fillOs [tabSk 1, .map kk vc] ((z1, z2), (es, ())))) m) w S m { env := fun _ => .any 0, sto := objs0 (fillOs [tabSk 1, .map kk vc] ((z1, z2), (es, ()))), done := fun _ => false } { tmps := #[], defers := [] } w S m :=
    ⟨hrel, ⟨rfl, rfl⟩, Ext.refl .., fun i u hi => absurd hi (Nat.not_lt_zero i)⟩
  have h3 := hA.grow0 ((hal.ext S).trans hx) hlive
  refine ⟨v, rfl, S3, m, ?_, h3.rel, fun i u _ q => q, h3.ext⟩
  exact hv.keep (Keeps.refl _ _) (fun i u q => by cases q)
end
end Go.Proofs.D
