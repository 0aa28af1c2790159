/- An entry of a map that is written on: mapEntry, entryStore. -/
import Derived.Test.YtgcecbkmmcgfkaaDNeg
import Derived.Test.YtgcecbkmmcgfkaaDScope
set_option linter.unusedVariables false
set_option linter.unusedSimpArgs false
namespace Go.Proofs.D
open Go.RowKit

/-- Where a key stands. -/
def ixK (k : K) {v : Type} : List (El k × v) → El k → Option Nat
  | [], _ => none
  | e :: r, y => bif eqE k y e.1 then some 0 else (ixK k r y).map (· + 1)

section
variable {k v : K} {α : Type}
theorem ixK_lt : ∀ {es : List (El k × α)} {y : El k} {j : Nat}, ixK k es y = some j → j < es.length
  | [], _, _, h => by cases h
  | e :: r, y, j, h => by
    simp only [ixK] at h
    cases he : eqE k y e.1 with
    | true => rw [he] at h; cases h; simp
    | false =>
      rw [he] at h
      obtain ⟨i, hi, rfl⟩ := Option.map_eq_some_iff.1 (show (ixK k r y).map (· + 1) = some j from h)
      have := ixK_lt hi
      simp; omega
theorem ixK_key (hf : k.flat = true) : ∀ {es : List (El k × α)} {y : El k} {j : Nat}, ixK k es y = some j → ∃ z, es[j]? = some (y, z)
  | [], _, _, h => by cases h
  | e :: r, y, j, h => by
    simp only [ixK] at h
    cases he : eqE k y e.1 with
    | true => rw [he] at h; cases h; exact ⟨e.2, by rw [eqE_eq hf he]; rfl⟩
    | false =>
      rw [he] at h
      obtain ⟨i, hi, rfl⟩ := Option.map_eq_some_iff.1 (show (ixK k r y).map (· + 1) = some j from h)
      obtain ⟨z, hz⟩ := ixK_key hf hi
      exact ⟨z, by simpa using hz⟩
theorem ixK_keys {β : Type} : ∀ {es : List (El k × α)} {fs : List (El k × β)} {y : El k}, es.map (·.1) = fs.map (·.1) → ixK k es y = ixK k fs y
  | [], [], _, _ => rfl
  | [], _ :: _, _, h => by simp at h
  | _ :: _, [], _, h => by simp at h
  | e :: r, f :: q, y, h => by
    simp only [List.map_cons, List.cons.injEq] at h
    simp only [ixK]
    rw [h.1, ixK_keys h.2]
theorem putM_ix : ∀ {es : List (El k × El v)} {y : El k} {z : El v}, putM k v es y z = match ixK k es y with | none => es ++ [(y, z)] | some j => es.set j (y, z)
  | [], y, z => rfl
  | e :: r, y, z => by
    simp only [putM, ixK]
    cases he : eqE k y e.1 with
    | true => rfl
    | false =>
      have := putM_ix (es := r) (y := y) (z := z)
      simp only [cond_false]
      cases hi : ixK k r y with
      | none => rw [hi] at this; simp [this]
      | some j => rw [hi] at this; simp [this]
theorem getM_ix : ∀ {es : List (El k × El v)} {y : El k}, getM k v es y = match ixK k es y with | none => zeroE v | some j => ((es[j]?).map (·.2)).getD (zeroE v)
  | [], y => rfl
  | e :: r, y => by
    simp only [getM, ixK]
    cases he : eqE k y e.1 with
    | true => rfl
    | false =>
      have := getM_ix (es := r) (y := y)
      simp only [cond_false]
      cases hi : ixK k r y with
      | none => rw [hi] at this; simp [this]
      | some j => rw [hi] at this; simp [this]
theorem fnd_ix {w : World} {S : Cells} : ∀ {es : List (El k × El v)} {fs : List MapEntry} {y : El k} {i : Nat}, MapL w S k v es fs → fnd k v y es fs i = match ixK k es y with | none => none | some j => (fs[j]?).map fun f => (i + j, f.val)
  | [], [], y, i, _ => rfl
  | [], _ :: _, _, _, h => h.elim
  | _ :: _, [], _, _, h => h.elim
  | e :: r, f :: q, y, i, ⟨_, _, h3⟩ => by
    simp only [fnd, ixK]
    cases he : eqE k y e.1 with
    | true => simp
    | false =>
      have := fnd_ix (y := y) (i := i + 1) h3
      simp only [cond_false]
      cases hi : ixK k r y with
      | none => rw [hi] at this; simp [this]
      | some j => rw [hi] at this; simp only [this, Option.map_some, List.getElem?_cons_succ]; congr 1; funext f; congr 1; omega
end

section
variable {P : Program} {w w' : World} {S S' : Cells} {kc vc : K} {ty : TypeId → Option K}
theorem MapL.length : ∀ {es : List (El kc × El vc)} {fs : List MapEntry}, MapL w S kc vc es fs → es.length = fs.length
  | [], [], _ => rfl
  | [], _ :: _, h => h.elim
  | _ :: _, [], h => h.elim
  | _ :: r, _ :: q, ⟨_, _, h⟩ => by simp [MapL.length h]
theorem MapL.at : ∀ {es : List (El kc × El vc)} {fs : List MapEntry} {j : Nat} {e : El kc × El vc} {f : MapEntry}, MapL w S kc vc es fs → es[j]? = some e → fs[j]? = some f → (∃ cs, Rep w S kc e.1 cs ∧ Shut kc.isAgg cs f.key) ∧ ∃ cs, Rep w S vc e.2 cs ∧ Shut vc.isAgg cs f.val
  | [], [], j, _, _, _, h, _ => by simp at h
  | [], _ :: _, _, _, _, h, _, _ => h.elim
  | _ :: _, [], _, _, _, h, _, _ => h.elim
  | _ :: r, _ :: q, 0, e, f, ⟨h1, h2, _⟩, he, hf => by
    simp at he hf; subst he; subst hf; exact ⟨h1, h2⟩
  | _ :: r, _ :: q, j + 1, e, f, ⟨_, _, h⟩, he, hf => MapL.at h (by simpa using he) (by simpa using hf)
theorem MapL.set {e : El kc × El vc} {F : MapEntry → MapEntry} : ∀ {es : List (El kc × El vc)} {fs : List MapEntry} {j : Nat}, MapL w S kc vc es fs → (∀ f, fs[j]? = some f → (∃ cs, Rep w S kc e.1 cs ∧ Shut kc.isAgg cs (F f).key) ∧ ∃ cs, Rep w S vc e.2 cs ∧ Shut vc.isAgg cs (F f).val) → MapL w S kc vc (es.set j e) (fs.modify j F)
  | [], [], j, _, _ => by cases j <;> trivial
  | [], _ :: _, _, h, _ => h.elim
  | _ :: _, [], _, h, _ => h.elim
  | _ :: r, f :: q, 0, ⟨_, _, h⟩, hF => ⟨(hF f rfl).1, (hF f rfl).2, h⟩
  | _ :: r, f :: q, j + 1, ⟨h1, h2, h⟩, hF => ⟨h1, h2, MapL.set h fun f hf => hF f (by simpa using hf)⟩
theorem MapL.snoc {e : El kc × El vc} {g : MapEntry} (hk : ∃ cs, Rep w S kc e.1 cs ∧ Shut kc.isAgg cs g.key) (hv : ∃ cs, Rep w S vc e.2 cs ∧ Shut vc.isAgg cs g.val) : ∀ {es : List (El kc × El vc)} {fs : List MapEntry}, MapL w S kc vc es fs → MapL w S kc vc (es ++ [e]) (fs ++ [g])
  | [], [], _ => ⟨hk, hv, trivial⟩
  | [], _ :: _, h => h.elim
  | _ :: _, [], h => h.elim
  | _ :: r, _ :: q, ⟨h1, h2, h⟩ => ⟨h1, h2, MapL.snoc hk hv h⟩

/-- Writing an entry's block. -/
def mapAt (w : World) (b : Nat) (fs : Array MapEntry) (clock : Nat) : World := { w with heap := w.heap.setIfInBounds b (.map fs clock) }

theorem entry_ok (hty : ∀ t c, ty t = some c → TyOk P ty t c) {t tk tv : TypeId} (ht : ty tk = some kc) (hfl : kc.flat = true) (hm : P.underlying t = some (.map tk tv)) (hz : (zeroValue tv).run P w = .ok (.slice none 0 0) w)
    {b : Nat} {fs : Array MapEntry} {clock : Nat} (hb : w.heap[b]? = some (.map fs clock)) {hs : List (El kc × El .hdr)} (hM : MapL w S kc .hdr hs fs.toList) (hB : Born fs clock) {y : El kc} {cy : List Value} {vy : Value} (ry : Rep w S kc y cy) (sy : Shut kc.isAgg cy vy) :
    ∃ fs1 clock1 j f hs1, (Instr.mapEntry t (.map (some b)) vy).run P w = .ok (.tuple #[f.val, goInt f.born]) (mapAt w b fs1 clock1) ∧ fs1[j]? = some f ∧ Born fs1 clock1 ∧ MapL w S kc .hdr hs1 fs1.toList ∧ hs1[j]? = some (y, f.val) ∧
      ((ixK kc hs y = some j ∧ hs1 = hs) ∨ (ixK kc hs y = none ∧ j = hs.length ∧ f.val = .slice none 0 0 ∧ hs1 = hs ++ [(y, (.slice none 0 0 : Value))])) := by
  have hd : depthK kc ≤ 9999 := by have := ((hty _ _ ht).eqg hfl).2.2; omega
  have hck := checkKey_ok (w := w) (S := S) hty false 9999 kc tk y cy vy hd ht hfl ry sy
  have hfk := findKey_ok (w := w) (S := S) (vc := .hdr) hty ht hfl ry sy hM
  have hfx := fnd_ix (y := y) (i := 0) hM
  cases hi : ixK kc hs y with
  | none =>
    rw [hi] at hfx
    rw [hfx] at hfk
    refine ⟨fs.push { key := vy, val := .slice none 0 0, born := clock }, clock + 1, hs.length, { key := vy, val := .slice none 0 0, born := clock }, hs ++ [(y, (.slice none 0 0 : Value))], ?_, ?_, hB.push _ _, ?_, by simp, .inr ⟨rfl, rfl, rfl, rfl⟩⟩
    · simp [Instr.mapEntry, Sem.run_bind, run_underlying hm, MapKept.run_getObj_map hb, hck, hfk, hz, MapKept.run_setObj_map _ hb, mapAt]
    · have := hM.length
      simp only [Array.length_toList] at this
      rw [this]; simp
    · rw [Array.toList_push]
      exact MapL.snoc (vc := .hdr) (e := (y, (Value.slice none 0 0 : El .hdr))) (g := { key := vy, val := .slice none 0 0, born := clock }) ⟨cy, ry, sy⟩ ⟨[.slice none 0 0], (⟨rfl, none, 0, 0, rfl⟩ : Rep w S .hdr (Value.slice none 0 0) [.slice none 0 0]), by simp [Shut, K.isAgg]⟩ hM
  | some j =>
    rw [hi] at hfx
    have hjl := ixK_lt hi
    obtain ⟨hv, hj⟩ := ixK_key hfl hi
    have hjf : j < fs.size := by have := hM.length; simp only [Array.length_toList] at this; omega
    have hfj : fs.toList[j]? = some fs[j] := by rw [Array.getElem?_toList]; exact Array.getElem?_eq_getElem hjf
    simp only [hfj, Option.map_some, Nat.zero_add] at hfx
    rw [hfx] at hfk
    obtain ⟨f', hk1, hk2⟩ := fnd_key hfl ry sy hM hfx
    simp only [Nat.sub_zero, hfj, Option.some.injEq] at hk1
    subst hk1
    have hvv : hv = fs[j].val := by
      obtain ⟨-, cs, ⟨r1, -⟩, r2⟩ := hM.at hj hfj
      subst r1
      simpa [Shut, K.isAgg] using r2
    subst hvv
    have hjs : fs[j]? = some fs[j] := Array.getElem?_eq_getElem hjf
    refine ⟨fs.modify j fun e => { e with key := vy }, clock, j, { fs[j] with key := vy }, hs, ?_, ?_, hB.modify _ _ fun _ => rfl, ?_, hj, .inl ⟨rfl, rfl⟩⟩
    · simp [Instr.mapEntry, Sem.run_bind, run_underlying hm, MapKept.run_getObj_map hb, hck, hfk, hjs, hk2, run_stays hfl ry sy, MapKept.run_setObj_map _ hb, mapAt]
    · rw [Array.getElem?_modify]; simp [hjs]
    · rw [Array.toList_modify]
      have := hM.set (e := (y, fs[j].val)) (F := fun e => { e with key := vy }) (j := j) fun f hf => by
        rw [hfj] at hf; cases hf
        exact ⟨⟨cy, ry, sy⟩, (hM.at hj hfj).2⟩
      rwa [show hs.set j (y, fs[j].val) = hs by
        apply List.ext_getElem?; intro i
        by_cases e : j = i
        · subst e; rw [List.getElem?_set_self (by omega), hj]
        · rw [List.getElem?_set_ne e]] at this

theorem find_born {fs : List MapEntry} (hn : (fs.map (·.born)).Nodup) {j : Nat} {e0 : MapEntry} (h : fs[j]? = some e0) : fs.findIdx? (fun e => ((e.born : Nat) : Int) == ((e0.born : Nat) : Int)) = some j := by
  induction fs generalizing j with
  | nil => simp at h
  | cons a r ih =>
    simp only [List.map_cons, List.nodup_cons] at hn
    cases j with
    | zero =>
      simp only [List.getElem?_cons_zero, Option.some.injEq] at h
      subst h
      simp [List.findIdx?_cons]
    | succ j =>
      simp only [List.getElem?_cons_succ] at h
      have hne : a.born ≠ e0.born := fun e1 => hn.1 (List.mem_map.2 ⟨e0, List.mem_of_getElem? h, e1.symm⟩)
      have hb : (((a.born : Nat) : Int) == ((e0.born : Nat) : Int)) = false := by
        simp only [beq_eq_false_iff_ne, ne_eq, Int.natCast_inj]
        exact hne
      rw [List.findIdx?_cons, hb]
      simp [ih hn.2 h]

theorem store_ok {t : TypeId} {b : Nat} {fs : Array MapEntry} {clock : Nat} (hb : w.heap[b]? = some (.map fs clock)) {hs : List (El kc × El .hdr)} (hM : MapL w S kc .hdr hs fs.toList) (hB : Born fs clock) {j : Nat} {f : MapEntry} (hf : fs[j]? = some f) {y : El kc} {v0 : Value} (hj : hs[j]? = some (y, v0)) {v : Value} (hv : ∃ A n cap, v = .slice A n cap) :
    ∃ fs1, (Instr.entryStore t (.map (some b)) (goInt f.born) v).run P w = .ok () (mapAt w b fs1 clock) ∧ Born fs1 clock ∧ MapL w S kc .hdr (hs.set j (y, v)) fs1.toList := by
  have hfl : fs.toList[j]? = some f := by rw [Array.getElem?_toList]; exact hf
  refine ⟨fs.modify j fun e => { e with val := v }, ?_, hB.modify _ _ fun _ => rfl, ?_⟩
  · have hx : fs.findIdx? (fun e => ((e.born : Nat) : Int) == ((f.born : Nat) : Int)) = some j := by
      have := find_born hB.2 hfl
      rw [← this]; cases fs; simp
    simp [Instr.entryStore, Sem.run_bind, MapKept.run_getObj_map hb, asInt, asIntOf, goInt, hx, MapKept.run_setObj_map _ hb, mapAt]
  · rw [Array.toList_modify]
    refine hM.set (e := (y, v)) (F := fun e => { e with val := v }) fun f' hf' => ?_
    rw [hfl] at hf'; cases hf'
    exact ⟨(hM.at hj hfl).1, ⟨[v], ⟨rfl, hv⟩, by simp [Shut, K.isAgg]⟩⟩
end
end Go.Proofs.D
