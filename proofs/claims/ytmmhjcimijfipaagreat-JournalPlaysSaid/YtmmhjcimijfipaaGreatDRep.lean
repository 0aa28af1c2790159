/- What data and slots say of memory: 'Rep', 'RepC', 'RepV'; they live on while what is stable is kept. -/
import Derived.Test.YtmmhjcimijfipaaGreatDRun
import Derived.Deep.MidRow
import Derived.Below
set_option linter.unusedVariables false
set_option linter.unusedSimpArgs false
namespace Go.Proofs.D
open Go.RowKit

abbrev Cells := Nat → Nat → Prop

/-- These cells lie there, and stay. -/
def Stays (w : World) (S : Cells) (b o : Nat) (cs : List Value) : Prop := w.rangeAt b o cs ∧ ∀ j, j < cs.length → S b (o + j)

def RowAt {α : Type} (w : World) (S : Cells) (R : α → List Value → Prop) (size : Nat) (A : Option Addr) (l : List α) : Prop :=
  ∀ i x, l[i]? = some x → ∃ b o cs, A = some ⟨b, o, none⟩ ∧ cs.length = size ∧ Stays w S b (o + i * size) cs ∧ R x cs

def RepL {α : Type} (R : α → List Value → Prop) : List α → List Value → Prop
  | [], cs => cs = []
  | x :: l, cs => ∃ c1 c2, cs = c1 ++ c2 ∧ R x c1 ∧ RepL R l c2

/-- The data x of shape c, in cells. -/
def Rep (w : World) (S : Cells) : (c : K) → El c → List Value → Prop
  | .int k, x, cs => cs = [.int k x]
  | .bool, x, cs => cs = [.bool x]
  | .str, x, cs => cs = [.string x]
  | .hdr, x, cs => cs = [x] ∧ ∃ A n cap, x = .slice A n cap
  | .ref _, _, _ => False
  | .slice e, l, cs => ∃ A cap, cs = [.slice A (List.length l) cap] ∧ List.length l ≤ cap ∧ RowAt w S (Rep w S e) e.size A l
  | .unit, _, cs => cs = []
  | .cons a b, x, cs => ∃ c1 c2, cs = c1 ++ c2 ∧ Rep w S a x.1 c1 ∧ Rep w S b x.2 c2
  | .arr n e, l, cs => List.length l = n ∧ RepL (Rep w S e) l cs

theorem RepL.length {α : Type} {R : α → List Value → Prop} {n : Nat} (hR : ∀ x cs, R x cs → cs.length = n) : ∀ {l : List α} {cs : List Value}, RepL R l cs → cs.length = l.length * n
  | [], cs, h => by cases h; simp
  | x :: l, cs, ⟨c1, c2, e, h1, h2⟩ => by
    subst e
    rw [List.length_append, hR _ _ h1, RepL.length hR h2, List.length_cons, Nat.add_mul]; omega

theorem Rep.length {w : World} {S : Cells} : ∀ {c : K} {x : El c} {cs : List Value}, Rep w S c x cs → cs.length = c.size
  | .int _, _, _, h => by simp only [Rep] at h; subst h; rfl
  | .bool, _, _, h => by simp only [Rep] at h; subst h; rfl
  | .str, _, _, h => by simp only [Rep] at h; subst h; rfl
  | .hdr, _, _, h => by obtain ⟨h, _⟩ := h; subst h; rfl
  | .ref _, _, _, h => h.elim
  | .slice _, _, _, ⟨A, cap, h, _⟩ => by subst h; rfl
  | .unit, _, _, h => by simp only [Rep] at h; subst h; rfl
  | .cons a b, _, _, ⟨c1, c2, e, h1, h2⟩ => by subst e; rw [List.length_append, Rep.length h1, Rep.length h2]; rfl
  | .arr n e, l, cs, ⟨hl, h⟩ => by rw [RepL.length (fun x cs h => Rep.length h) h, hl]; rfl

theorem RepL.imp {α : Type} {R R' : α → List Value → Prop} (h : ∀ x cs, R x cs → R' x cs) : ∀ {l : List α} {cs : List Value}, RepL R l cs → RepL R' l cs
  | [], _, hl => hl
  | _ :: _, _, ⟨c1, c2, e, h1, h2⟩ => ⟨c1, c2, e, h _ _ h1, RepL.imp h h2⟩

/-- What is kept where it is stable. -/
structure Keeps (w : World) (S : Cells) (w' : World) (S' : Cells) : Prop where
  more : ∀ b o, S b o → S' b o
  cell : ∀ b o v, S b o → w.cell? ⟨b, o, none⟩ = some v → w'.cell? ⟨b, o, none⟩ = some v

theorem Keeps.refl (w : World) (S : Cells) : Keeps w S w S := ⟨fun _ _ h => h, fun _ _ _ _ h => h⟩
theorem Keeps.trans {w w1 w2 : World} {S S1 S2 : Cells} (h : Keeps w S w1 S1) (k : Keeps w1 S1 w2 S2) : Keeps w S w2 S2 :=
  ⟨fun b o x => k.more b o (h.more b o x), fun b o v hs hv => k.cell b o v (h.more b o hs) (h.cell b o v hs hv)⟩

theorem Stays.keep {w w' : World} {S S' : Cells} (k : Keeps w S w' S') {b o : Nat} {cs : List Value} (h : Stays w S b o cs) : Stays w' S' b o cs :=
  ⟨fun j v hj => k.cell _ _ _ (h.2 j (List.getElem?_eq_some_iff.1 hj).1) (h.1 j v hj), fun j hj => k.more _ _ (h.2 j hj)⟩

theorem RowAt.keep {α : Type} {w w' : World} {S S' : Cells} (k : Keeps w S w' S') {R R' : α → List Value → Prop} (hR : ∀ x cs, R x cs → R' x cs) {size : Nat} {A : Option Addr} {l : List α}
    (h : RowAt w S R size A l) : RowAt w' S' R' size A l := fun i x hx =>
  let ⟨b, o, cs, hA, hl, hs, hr⟩ := h i x hx
  ⟨b, o, cs, hA, hl, hs.keep k, hR _ _ hr⟩

theorem Rep.keep {w w' : World} {S S' : Cells} (k : Keeps w S w' S') : ∀ {c : K} {x : El c} {cs : List Value}, Rep w S c x cs → Rep w' S' c x cs
  | .int _, _, _, h => h
  | .bool, _, _, h => h
  | .str, _, _, h => h
  | .hdr, _, _, h => h
  | .ref _, _, _, h => h
  | .slice _, _, _, ⟨A, cap, h1, h2, h3⟩ => ⟨A, cap, h1, h2, h3.keep k fun _ _ h => Rep.keep k h⟩
  | .unit, _, _, h => h
  | .cons _ _, _, _, ⟨c1, c2, e, h1, h2⟩ => ⟨c1, c2, e, Rep.keep k h1, Rep.keep k h2⟩
  | .arr _ _, _, _, ⟨hl, h⟩ => ⟨hl, h.imp fun _ _ h => Rep.keep k h⟩

/-- Flat data hang on no memory. -/
theorem Rep.flat {w w' : World} {S S' : Cells} : ∀ {c : K} {x : El c} {cs : List Value}, c.flat = true → Rep w S c x cs → Rep w' S' c x cs
  | .int _, _, _, _, h => h
  | .bool, _, _, _, h => h
  | .str, _, _, _, h => h
  | .hdr, _, _, _, h => h
  | .ref _, _, _, _, h => h
  | .slice _, _, _, hf, _ => by simp [K.flat] at hf
  | .unit, _, _, _, h => h
  | .cons a b, _, _, hf, ⟨c1, c2, e, h1, h2⟩ => by
    simp only [K.flat, Bool.and_eq_true] at hf
    exact ⟨c1, c2, e, Rep.flat hf.1 h1, Rep.flat hf.2 h2⟩
  | .arr _ e, _, _, hf, ⟨hl, h⟩ => ⟨hl, h.imp fun _ _ h => Rep.flat (by simpa [K.flat] using hf) h⟩

theorem RepL.one {α : Type} {R : α → List Value → Prop} (hR : ∀ x cs, R x cs → ∀ v ∈ cs, v.oneCell' = true) : ∀ {l : List α} {cs : List Value}, RepL R l cs → ∀ v ∈ cs, v.oneCell' = true
  | [], _, h, v, hv => by cases h; cases hv
  | _ :: _, _, ⟨c1, c2, e, h1, h2⟩, v, hv => by
    subst e
    rcases List.mem_append.1 hv with h | h
    · exact hR _ _ h1 v h
    · exact RepL.one hR h2 v h

theorem Rep.one {w : World} {S : Cells} : ∀ {c : K} {x : El c} {cs : List Value}, Rep w S c x cs → ∀ v ∈ cs, v.oneCell' = true
  | .int _, _, _, h, v, hv => by simp only [Rep] at h; subst h; simp at hv; subst hv; rfl
  | .bool, _, _, h, v, hv => by simp only [Rep] at h; subst h; simp at hv; subst hv; rfl
  | .str, _, _, h, v, hv => by simp only [Rep] at h; subst h; simp at hv; subst hv; rfl
  | .hdr, _, _, h, v, hv => by obtain ⟨h, _, _, _, e⟩ := h; subst h; simp at hv; subst hv; rw [e]; rfl
  | .ref _, _, _, h, _, _ => h.elim
  | .slice _, _, _, ⟨A, cap, h, _⟩, v, hv => by subst h; simp at hv; subst hv; rfl
  | .unit, _, _, h, v, hv => by simp only [Rep] at h; subst h; cases hv
  | .cons a b, _, _, ⟨c1, c2, e, h1, h2⟩, v, hv => by
    subst e
    rcases List.mem_append.1 hv with h | h
    · exact Rep.one h1 v h
    · exact Rep.one h2 v h
  | .arr _ _, _, _, ⟨_, h⟩, v, hv => h.one (fun _ _ h => Rep.one h) v hv

/-- An object's place: the value that stands for it, where its cells begin, its shape. -/
structure MB where
  hv : Value
  b : Nat
  o : Nat
  code : K

def offK : K → List Step → Nat
  | .cons a _, .fld 0 :: p => offK a p
  | .cons a b, .fld (j + 1) :: p => a.size + offK b (.fld j :: p)
  | .arr _ e, .idx i :: p => i.toNat * e.size + offK e p
  | _, _ => 0

/-- A value of these cells. -/
def Shut (agg : Bool) (cs : List Value) (v : Value) : Prop := if agg then v = .agg cs.toArray else cs = [v]

def T.isAny : T → Bool | .any _ => true | _ => false

/-- A function's value: with what it captured, or its first arguments bound. -/
def cloV (f : Nat) (vs : List Value) : Value := bif Nat.blt f cloB then .func (.func f) #[] vs.toArray else .func (.func (f - cloB)) vs.toArray #[]
theorem cloV_lt {f : Nat} {vs : List Value} (h : Nat.blt f cloB = true) : cloV f vs = .func (.func f) #[] vs.toArray := by unfold cloV; rw [h]; rfl
theorem cloV_ge {f : Nat} {vs : List Value} (h : Nat.blt f cloB = false) : cloV f vs = .func (.func (f - cloB)) vs.toArray #[] := by unfold cloV; rw [h]; rfl
theorem cloV_add {f : Nat} {vs : List Value} : cloV (cloB + f) vs = .func (.func f) vs.toArray #[] := by
  have h : Nat.blt (cloB + f) cloB = false := by
    cases hb : Nat.blt (cloB + f) cloB with
    | false => rfl
    | true => rw [Nat.blt_eq] at hb; omega
  rw [cloV_ge h, Nat.add_sub_cancel_left]
theorem cloV_form (f : Nat) (vs : List Value) : ∃ g p q, cloV f vs = .func (.func g) p q := by
  cases h : Nat.blt f cloB with
  | true => exact ⟨_, _, _, cloV_lt h⟩
  | false => exact ⟨_, _, _, cloV_ge h⟩

def RepC (w : World) (S : Cells) (m : Nat → Option MB) : T → List Value → Prop
  | .any n, cs => cs.length = n ∧ ∀ v ∈ cs, v.oneCell' = true
  | .und, cs => cs = [undef]
  | .val c x, cs => Rep w S c x cs
  | .nils _, cs => cs = [.slice none 0 0]
  | .nilr r, cs => (r = 0 ∧ cs = [.pointer none]) ∨ (r = 1 ∧ cs = [.map none]) ∨ (2 ≤ r ∧ cs = [.nilFunc])
  | .ptr i p, cs => ∃ u, m i = some u ∧ cs = [.pointer (some ⟨u.b, u.o + offK u.code p, none⟩)]
  | .row i, cs => ∃ u, m i = some u ∧ cs = [u.hv] ∧ ∃ A n cap, u.hv = .slice A n cap
  | .rptr c x, cs => ∃ b o ds, cs = [.pointer (some ⟨b, o, none⟩)] ∧ Rep w S c x ds ∧ Stays w S b o ds
  | .mapr i, cs => ∃ u, m i = some u ∧ cs = [u.hv] ∧ ∃ r, u.hv = .map (some r)
  | .clo f c, cs => ∃ vs, RepC w S m c vs ∧ cs = [cloV f vs]
  | .unit, cs => cs = []
  | .pair a b, cs => ∃ c1 c2, cs = c1 ++ c2 ∧ RepC w S m a c1 ∧ RepC w S m b c2
  | .tn, vs => vs = []
  | .tc a b, vs => ∃ v r, vs = v :: r ∧ (a.isAny = true ∨ ∃ cs, RepC w S m a cs ∧ Shut a.isAgg cs v) ∧ RepC w S m b r
  | .tup l, cs => ∃ vs, RepC w S m l vs ∧ cs = [.tuple vs.toArray]

/-- What a slot's value is. -/
def RepV (w : World) (S : Cells) (m : Nat → Option MB) (t : T) (v : Value) : Prop := t.isAny = true ∨ ∃ cs, RepC w S m t cs ∧ Shut t.isAgg cs v

theorem RepC.keep {w w' : World} {S S' : Cells} {m m' : Nat → Option MB} (k : Keeps w S w' S') (hm : ∀ i u, m i = some u → m' i = some u) : ∀ {t : T} {cs : List Value}, RepC w S m t cs → RepC w' S' m' t cs
  | .any _, _, h => h
  | .und, _, h => h
  | .val _ _, _, h => Rep.keep k h
  | .nils _, _, h => h
  | .nilr _, _, h => h
  | .ptr _ _, _, ⟨u, h, e⟩ => ⟨u, hm _ _ h, e⟩
  | .row _, _, ⟨u, h, e⟩ => ⟨u, hm _ _ h, e⟩
  | .rptr _ _, _, ⟨b, o, ds, e, h, hs⟩ => ⟨b, o, ds, e, h.keep k, hs.keep k⟩
  | .mapr _, _, ⟨u, h, e⟩ => ⟨u, hm _ _ h, e⟩
  | .clo _ _, _, ⟨vs, h, e⟩ => ⟨vs, RepC.keep k hm h, e⟩
  | .unit, _, h => h
  | .pair _ _, _, ⟨c1, c2, e, h1, h2⟩ => ⟨c1, c2, e, RepC.keep k hm h1, RepC.keep k hm h2⟩
  | .tn, _, h => h
  | .tc _ _, _, ⟨v, r, e, h1, h2⟩ => ⟨v, r, e, h1.imp id fun ⟨cs, h, hs⟩ => ⟨cs, RepC.keep k hm h, hs⟩, RepC.keep k hm h2⟩
  | .tup _, _, ⟨vs, h, e⟩ => ⟨vs, RepC.keep k hm h, e⟩

theorem RepV.keep {w w' : World} {S S' : Cells} {m m' : Nat → Option MB} (k : Keeps w S w' S') (hm : ∀ i u, m i = some u → m' i = some u) {t : T} {v : Value} (h : RepV w S m t v) : RepV w' S' m' t v :=
  h.imp id fun ⟨cs, h, hs⟩ => ⟨cs, h.keep k hm, hs⟩

/-- The cells that an object may write. -/
def Own (u : MB) : Obj → Cells
  | .cell c fz _, b, x => fz = false ∧ b = u.b ∧ u.o ≤ x ∧ x < u.o + c.size
  | .row e sh l, b, x => ∃ n cap a, u.hv = .slice (some a) n cap ∧ b = u.b ∧ u.o ≤ x ∧ x < u.o + cap * e.size ∧ (sh = true → u.o + l.length * e.size ≤ x)
  | .map _ _ _, b, _ => b = u.b

/-- The entries of a map. -/
def MapL (w : World) (S : Cells) (kc vc : K) : List (El kc × El vc) → List MapEntry → Prop
  | [], [] => True
  | e :: r, f :: q => (∃ cs, Rep w S kc e.1 cs ∧ Shut kc.isAgg cs f.key) ∧ (∃ cs, Rep w S vc e.2 cs ∧ Shut vc.isAgg cs f.val) ∧ MapL w S kc vc r q
  | _, _ => False

theorem MapL.keep {w w' : World} {S S' : Cells} (k : Keeps w S w' S') {kc vc : K} : ∀ {es : List (El kc × El vc)} {fs : List MapEntry}, MapL w S kc vc es fs → MapL w' S' kc vc es fs
  | [], [], h => h
  | [], _ :: _, h => h
  | _ :: _, [], h => h
  | e :: r, f :: q, ⟨⟨c1, h1, h2⟩, ⟨c2, h3, h4⟩, h5⟩ => ⟨⟨c1, h1.keep k, h2⟩, ⟨c2, h3.keep k, h4⟩, MapL.keep k h5⟩

/-- The entries of a map, in any order; its keys are apart. -/
def MapP (w : World) (S : Cells) (kc vc : K) (es : List (El kc × El vc)) (fs : List MapEntry) : Prop :=
  (es.map (·.1)).Nodup ∧ ∃ es' : List (El kc × El vc), es'.Perm es ∧ MapL w S kc vc es' fs

theorem MapP.keep {w w' : World} {S S' : Cells} (k : Keeps w S w' S') {kc vc : K} {es : List (El kc × El vc)} {fs : List MapEntry} (h : MapP w S kc vc es fs) : MapP w' S' kc vc es fs :=
  let ⟨h1, es', h2, h3⟩ := h
  ⟨h1, es', h2, h3.keep k⟩
theorem MapP.nil {w : World} {S : Cells} {kc vc : K} : MapP w S kc vc [] [] := ⟨List.nodup_nil, [], .nil, trivial⟩

/-- The entries' stamps. -/
def Born (fs : Array MapEntry) (clock : Nat) : Prop := (∀ x ∈ fs.toList, x.born < clock) ∧ (fs.toList.map (·.born)).Nodup
theorem Born.empty (clock : Nat) : Born #[] clock := ⟨by simp, by simp⟩
theorem Born.push {fs : Array MapEntry} {clock : Nat} (h : Born fs clock) (k v : Value) : Born (fs.push { key := k, val := v, born := clock }) (clock + 1) := by
  refine ⟨fun x hx => ?_, ?_⟩
  · rw [Array.toList_push] at hx
    rcases List.mem_append.1 hx with q | q
    · have := h.1 x q; omega
    · simp only [List.mem_singleton] at q; subst q; show clock < clock + 1; omega
  · rw [Array.toList_push, List.map_append]
    refine List.nodup_append.2 ⟨h.2, by simp, fun a ha b hb e => ?_⟩
    obtain ⟨x, hx, rfl⟩ := List.mem_map.1 ha
    simp only [List.map_cons, List.map_nil, List.mem_singleton] at hb
    have := h.1 x hx
    omega
theorem modify_map {α β : Type} {f : α → α} {g : α → β} (h : ∀ a, g (f a) = g a) : ∀ (l : List α) (i : Nat), (l.modify i f).map g = l.map g
  | [], i => by cases i <;> rfl
  | a :: l, 0 => by simp [h]
  | a :: l, i + 1 => by simp [List.modify_succ_cons, modify_map h l i]
theorem Born.modify {fs : Array MapEntry} {clock : Nat} (h : Born fs clock) (i : Nat) (f : MapEntry → MapEntry) (hf : ∀ e, (f e).born = e.born) : Born (fs.modify i f) clock := by
  have e : (fs.modify i f).toList.map (·.born) = fs.toList.map (·.born) := by rw [Array.toList_modify]; exact modify_map hf _ _
  refine ⟨fun x hx => ?_, by rw [e]; exact h.2⟩
  have : x.born ∈ (fs.modify i f).toList.map (·.born) := List.mem_map_of_mem hx
  rw [e] at this
  obtain ⟨y, hy, q⟩ := List.mem_map.1 this
  rw [← q]; exact h.1 y hy
theorem Born.erase {fs : Array MapEntry} {clock : Nat} (h : Born fs clock) (i : Nat) : Born (fs.eraseIdxIfInBounds i) clock := by
  by_cases hi : i < fs.size
  · unfold Array.eraseIdxIfInBounds
    rw [dif_pos hi]
    have hs : (fs.eraseIdx i).toList.Sublist fs.toList := by rw [Array.toList_eraseIdx]; exact List.eraseIdx_sublist _ _
    exact ⟨fun x hx => h.1 x (hs.subset hx), h.2.sublist (hs.map _)⟩
  · unfold Array.eraseIdxIfInBounds
    rw [dif_neg hi]; exact h

/-- What lies behind an object. -/
def ObjOk (w : World) (S : Cells) (m : Nat → Option MB) (u : MB) : Obj → Prop
  | .cell c fz t => u.hv = .pointer (some ⟨u.b, u.o, none⟩) ∧ u.code = c ∧ t.fits c = true ∧ ∃ cs, w.rangeAt u.b u.o cs ∧ RepC w S m t cs ∧
      (fz = false → ∀ j, j < c.size → w.frozen? ⟨u.b, u.o + j, none⟩ = false) ∧ (fz = true → ∀ j, j < c.size → S u.b (u.o + j))
  | .row e sh l => ∃ A cap, u.hv = .slice A l.length cap ∧ l.length ≤ cap ∧ u.code = .arr 0 e ∧ (A = none → cap = 0) ∧ (∀ a, A = some a → 0 < cap → a = ⟨u.b, u.o, none⟩) ∧
      (∀ i x, l[i]? = some x → ∃ cs, cs.length = e.size ∧ w.rangeAt u.b (u.o + i * e.size) cs ∧ Rep w S e x cs ∧ (sh = true → ∀ j, j < e.size → S u.b (u.o + i * e.size + j))) ∧
      (∀ x, Own u (.row e sh l) u.b x → (w.cell? ⟨u.b, x, none⟩).isSome = true ∧ w.frozen? ⟨u.b, x, none⟩ = false)
  | .map kc vc es => u.hv = .map (some u.b) ∧ kc.flat = true ∧ ∃ fs clock, w.heap[u.b]? = some (.map fs clock) ∧ MapP w S kc vc es fs.toList ∧ Born fs clock

/-- What is known of the objects. -/
structure StoRel (σ : Nat → Option Obj) (w : World) (S : Cells) (m : Nat → Option MB) : Prop where
  sto : ∀ i o, σ i = some o → ∃ u, m i = some u ∧ ObjOk w S m u o
  apart : ∀ i j o p u v, i ≠ j → σ i = some o → σ j = some p → m i = some u → m j = some v → ∀ b x, Own u o b x → Own v p b x → False
  stab : ∀ i o u, σ i = some o → m i = some u → ∀ b x, S b x → Own u o b x → False
  live : ∀ b x, S b x → b < w.heap.size

/-- All that is known between two operations. -/
structure Rel (s : St) (tm : Array Value) (w : World) (S : Cells) (m : Nat → Option MB) : Prop extends StoRel s.sto w S m where
  env : ∀ t, RepV w S m (s.env t) (tm.getD t undef)
  fresh : ∀ d, d < 99000 → s.done d = false → m (1000 + d) = none ∧ ∀ k, k < 1000 → m (1000000 + 1000 * d + k) = none
  top : ∀ i, 100000000 ≤ i → m i = none

def OwnSt (s : Sto) (m : Nat → Option MB) : Cells := fun b x => ∃ i o u, s i = some o ∧ m i = some u ∧ Own u o b x

/-- The tape stands; it is drawn from no less often. -/
def Tape (w w' : World) : Prop := w'.tape = w.tape ∧ w.drawn ≤ w'.drawn
theorem Tape.refl (w : World) : Tape w w := ⟨rfl, Nat.le_refl _⟩
theorem Tape.trans {w w1 w2 : World} (h : Tape w w1) (k : Tape w1 w2) : Tape w w2 := ⟨k.1.trans h.1, Nat.le_trans h.2 k.2⟩

/-- From one world to a later one: what is owned alone may turn. -/
structure Ext (O : Cells) (w : World) (S : Cells) (m : Nat → Option MB) (w' : World) (S' : Cells) (m' : Nat → Option MB) (O' : Cells) : Prop where
  os : w'.os = w.os
  tape : Tape w w'
  output : w'.output = w.output
  size : w.heap.size ≤ w'.heap.size
  maps : ∀ i u, m i = some u → m' i = some u
  more : ∀ b x, S b x → S' b x
  less : ∀ b x, S' b x → S b x ∨ O b x ∨ w.heap.size ≤ b
  own : ∀ b x, O' b x → O b x ∨ w.heap.size ≤ b
  cell : ∀ b x, b < w.heap.size → ¬ O b x → w'.cell? ⟨b, x, none⟩ = w.cell? ⟨b, x, none⟩ ∧ w'.frozen? ⟨b, x, none⟩ = w.frozen? ⟨b, x, none⟩
  block : ∀ b, b < w.heap.size → (∀ x, ¬ O b x) → w'.heap[b]? = w.heap[b]?

theorem Ext.refl (O : Cells) (w : World) (S : Cells) (m : Nat → Option MB) : Ext O w S m w S m O :=
  ⟨rfl, Tape.refl w, rfl, Nat.le_refl _, fun _ _ h => h, fun _ _ h => h, fun _ _ h => .inl h, fun _ _ h => .inl h, fun _ _ _ _ => ⟨rfl, rfl⟩, fun _ _ _ => rfl⟩

theorem Ext.trans {O O1 O2 : Cells} {w w1 w2 : World} {S S1 S2 : Cells} {m m1 m2 : Nat → Option MB} (h : Ext O w S m w1 S1 m1 O1) (k : Ext O1 w1 S1 m1 w2 S2 m2 O2) : Ext O w S m w2 S2 m2 O2 where
  os := k.os.trans h.os
  tape := h.tape.trans k.tape
  output := k.output.trans h.output
  size := Nat.le_trans h.size k.size
  maps := fun i u x => k.maps i u (h.maps i u x)
  more := fun b x hx => k.more b x (h.more b x hx)
  less := fun b x hx => by
    rcases k.less b x hx with h1 | h1 | h1
    · exact h.less b x h1
    · rcases h.own b x h1 with h2 | h2
      · exact .inr (.inl h2)
      · exact .inr (.inr h2)
    · exact .inr (.inr (Nat.le_trans h.size h1))
  own := fun b x hx => by
    rcases k.own b x hx with h1 | h1
    · exact h.own b x h1
    · exact .inr (Nat.le_trans h.size h1)
  cell := fun b x hb hx => by
    have h1 : ¬ O1 b x := fun h1 => (h.own b x h1).elim hx (fun h2 => by omega)
    obtain ⟨a1, a2⟩ := h.cell b x hb hx
    obtain ⟨b1, b2⟩ := k.cell b x (Nat.lt_of_lt_of_le hb h.size) h1
    exact ⟨b1.trans a1, b2.trans a2⟩
  block := fun b hb hx => by
    have h1 : ∀ x, ¬ O1 b x := fun x h1 => (h.own b x h1).elim (hx x) (fun h2 => by omega)
    exact (k.block b (Nat.lt_of_lt_of_le hb h.size) h1).trans (h.block b hb hx)

end Go.Proofs.D
