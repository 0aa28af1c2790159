/- An entry of a map that is written on: mapEntry, entryStore. -/
import Derived.Test.YtmmhjcimijfipaaGreatDNeg
import Derived.Test.YtmmhjcimijfipaaGreatDScope
set_option linter.unusedVariables false
set_option linter.unusedSimpArgs false
namespace Go.Proofs.D
open Go.RowKit

section
variable {k v : K} {α : Type}
end

section
variable {P : Program} {w w' : World} {S S' : Cells} {kc vc : K} {ty : TypeId → Option K}
theorem MapL.length : ∀ {es : List (El kc × El vc)} {fs : List MapEntry}, MapL w S kc vc es fs → es.length = fs.length
  | [], [], _ => rfl
  | [], _ :: _, h => h.elim
  | _ :: _, [], h => h.elim
  | _ :: r, _ :: q, ⟨_, _, h⟩ => by simp [MapL.length h]
theorem MapL.at : ∀ {es : List (El kc × El vc)} {fs : List MapEntry} {j : Nat} {e : El kc × El vc} {f : MapEntry}, MapL w S kc vc es fs → es[j]? = some e → fs[j]? = some f → (∃ cs, Rep w S kc e.1 cs ∧ Shut kc.isAgg cs f.key) ∧ ∃ cs, Rep w S vc e.2 cs ∧ Shut vc.isAgg cs f.val
  | [], [], j, _, _, _, h, _ => by simp at h
  | [], _ :: _, _, _, _, h, _, _ => h.elim
  | _ :: _, [], _, _, _, h, _, _ => h.elim
  | _ :: r, _ :: q, 0, e, f, ⟨h1, h2, _⟩, he, hf => by
    simp at he hf; subst he; subst hf; exact ⟨h1, h2⟩
  | _ :: r, _ :: q, j + 1, e, f, ⟨_, _, h⟩, he, hf => MapL.at h (by simpa using he) (by simpa using hf)
theorem MapL.set {e : El kc × El vc} {F : MapEntry → MapEntry} : ∀ {es : List (El kc × El vc)} {fs : List MapEntry} {j : Nat}, MapL w S kc vc es fs → (∀ f, fs[j]? = some f → (∃ cs, Rep w S kc e.1 cs ∧ Shut kc.isAgg cs (F f).key) ∧ ∃ cs, Rep w S vc e.2 cs ∧ Shut vc.isAgg cs (F f).val) → MapL w S kc vc (es.set j e) (fs.modify j F)
  | [], [], j, _, _ => by cases j <;> trivial
  | [], _ :: _, _, h, _ => h.elim
  | _ :: _, [], _, h, _ => h.elim
  | _ :: r, f :: q, 0, ⟨_, _, h⟩, hF => ⟨(hF f rfl).1, (hF f rfl).2, h⟩
  | _ :: r, f :: q, j + 1, ⟨h1, h2, h⟩, hF => ⟨h1, h2, MapL.set h fun f hf => hF f (by simpa using hf)⟩
end
end Go.Proofs.D
