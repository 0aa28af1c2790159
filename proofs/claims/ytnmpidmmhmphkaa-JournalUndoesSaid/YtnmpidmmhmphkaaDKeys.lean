/- slices.SortedFunc(maps.Keys(m), cmp), where a region calls for it. -/
import Derived.Test.YtnmpidmmhmphkaaDSortK
set_option linter.unusedVariables false
set_option linter.unusedSimpArgs false
namespace Go.Proofs.D
open Go.RowKit Go.Sort

section
variable {α : Type}
def leOf (cf : α → α → Int) (x y : α) : Bool := !(ltOf cf) y x
theorem sort_perm [Inhabited α] {cf : α → α → Int} (hO : SWO (ltOf cf)) (hT : ∀ x y, ltOf cf x y = false → ltOf cf y x = false → x = y) {l l' : List α} (h : l.Perm l') : l.mergeSort (leOf cf) = l'.mergeSort (leOf cf) := by
  have tr : ∀ a b c : α, leOf cf a b = true → leOf cf b c = true → leOf cf a c = true := fun a b c h1 h2 => by
    unfold leOf at *
    simp only [Bool.not_eq_true'] at *
    exact hO.ntrans c b a h2 h1
  have to : ∀ a b : α, (leOf cf a b || leOf cf b a) = true := fun a b => by
    unfold leOf
    cases h1 : ltOf cf b a with
    | false => rfl
    | true =>
      cases h2 : ltOf cf a b with
      | false => rfl
      | true => have := hO.trans a b a h2 h1; rw [hO.irrefl] at this; cases this
  refine List.Perm.eq_of_pairwise (le := fun a b => leOf cf a b = true) (fun a b _ _ h1 h2 => ?_) (List.pairwise_mergeSort tr to l) (List.pairwise_mergeSort tr to l') (((List.mergeSort_perm l _).trans h).trans (List.mergeSort_perm l' _).symm)
  unfold leOf at h1 h2
  simp only [Bool.not_eq_true'] at h1 h2
  exact hT a b h2 h1
end

section
variable {P : Program} {C C1 : Ctx} {kk vc : K} {a a' : Act} {w w' : World} {S S' : Cells} {m m' : Nat → Option MB}

theorem kgives {one : Bool} {gf : FuncId} {fg : Func} {mt tk tv : TypeId} {ts : Array TypeId} {es : List (El kk × El vc)} {fs : Array MapEntry} {clock bm bx : Nat} (hC : CtxOk P C) (B : KitFacts P C gf fg kk mt tk tv ts one) (hfl : kk.flat = true) (hM : MapP w S kk vc es fs.toList) (hB : Born fs clock) (hm : w.heap[bm]? = some (.map fs clock)) (hbx : w.cell? ⟨bx, 0, none⟩ = some (.map (some bm))) :
    KGives P gf (.pointer (some ⟨bx, 0, none⟩)) kk (fun ks => ks.Perm (es.map (·.1))) es.length w := fun l J W S0 hg hJl hJg hY h0 => by
  obtain ⟨-, es0, hp, hM⟩ := hM
  rw [← hp.length_eq] at hY
  refine (keys_in (W0 := W) hC B hfl (hM.keep (grown_keeps hg)) hB J hJl hJg hY ((hg.block bm (Array.getElem?_eq_some_iff.1 hm).1 (by simp)).trans hm) (by rw [World.cell?_of_block (a := ⟨bx, 0, none⟩) (hg.block bx (cell_lt hbx) (by simp))]; exact hbx) h0).mono ?_
  rintro en W' ⟨h1, ks, S', h2, h3⟩
  exact ⟨h1, ks, S', h2.trans (hp.map _), h3⟩

/-- The world has but grown. -/
theorem At.grow0 {s : St} {O0 : Cells} {w0 : World} {S0 : Cells} {m0 : Nat → Option MB} (h : At C 0 O0 w0 S0 m0 s a w S m) (hx : Ext (fun _ _ => False) w S (fun _ => none) w' S' (fun _ => none) (fun _ _ => False)) (hl : ∀ b x, S' b x → b < w'.heap.size) : At C 0 O0 w0 S0 m0 s a w' S' m := by
  have hle : ∀ b x, S' b x → S b x ∨ w.heap.size ≤ b := fun b x q => by
    rcases hx.less b x q with q | q | q
    · exact .inl q
    · exact q.elim
    · exact .inr q
  have hblk : ∀ b, b < w.heap.size → w'.heap[b]? = w.heap[b]? := fun b hb => hx.block b hb fun _ q => q
  have hk : Keeps w S w' S' := ⟨hx.more, fun b o v _ hv => by rw [World.cell?_of_block (a := ⟨b, o, none⟩) (hblk b (cell_lt hv))]; exact hv⟩
  refine ⟨⟨⟨fun i o ho => ?_, h.rel.apart, fun i o u ho hu b x hs hx' => ?_, hl⟩, fun t => (h.rel.env t).keep hk fun _ _ q => q, h.rel.fresh, h.rel.top⟩, h.tm, ?_, h.keep⟩
  · obtain ⟨u, h1, h2⟩ := h.rel.sto i o ho
    refine ⟨u, h1, h2.keep hk (fun _ _ q => q) (fun b x hx' => ?_) (fun hx' => hblk _ (h2.own_lt (hx' 0)))⟩
    have := hblk b (h2.own_lt hx')
    exact ⟨World.cell?_of_block (a := ⟨b, x, none⟩) this, World.frozen?_of_block (a := ⟨b, x, none⟩) this⟩
  · rcases hle b x hs with q | q
    · exact h.rel.stab i o u ho hu b x q hx'
    · obtain ⟨u', g1, g2⟩ := h.rel.sto i o ho
      rw [hu] at g1; cases g1
      have := g2.own_lt hx'
      omega
  · have e := h.ext
    have hb : ∀ b, b < w0.heap.size → w'.heap[b]? = w.heap[b]? := fun b hb => hblk b (Nat.lt_of_lt_of_le hb e.size)
    exact ⟨hx.os.trans e.os, e.tape.trans hx.tape, hx.output.trans e.output, Nat.le_trans e.size hx.size, e.maps, fun b x q => hx.more b x (e.more b x q), fun b x q => by
        rcases hle b x q with q | q
        · exact e.less b x q
        · exact .inr (.inr (Nat.le_trans e.size q)), e.own,
      fun b x h1 h2 => by
        have := e.cell b x h1 h2
        rw [World.cell?_of_block (a := ⟨b, x, none⟩) (hb b h1), World.frozen?_of_block (a := ⟨b, x, none⟩) (hb b h1)]; exact this,
      fun b h1 h2 => (hb b h1).trans (e.block b h1 h2)⟩

theorem Ext.sub0 {O O' : Cells} (h : Ext O w S m w' S' m' O') (hO : ∀ b x, ¬ O b x) : Ext (fun _ _ => False) w S m w' S' m' O' :=
  ⟨h.os, h.tape, h.output, h.size, h.maps, h.more, fun b x q => (h.less b x q).imp id (fun q => q.imp (hO b x) id), fun b x q => (h.own b x q).imp (hO b x) id, fun b x hb _ => h.cell b x hb (hO b x), fun b hb _ => h.block b hb (hO b)⟩

theorem Gr.ext {w w' : World} (h : Gr w w' none) (S : Cells) : Ext (fun _ _ => False) w S (fun _ => none) w' S (fun _ => none) (fun _ _ => False) :=
  ⟨h.os, h.tape', h.output, h.size, fun _ _ q => q, fun _ _ q => q, fun _ _ q => .inl q, fun _ _ q => q.elim, fun b x hb _ => by
    have := h.block b hb (by simp)
    exact ⟨World.cell?_of_block (a := ⟨b, x, none⟩) this, World.frozen?_of_block (a := ⟨b, x, none⟩) this⟩, fun b hb _ => h.block b hb (by simp)⟩

/-- What the two functions promise. -/
def KeysCall (P : Program) (kf gf : FuncId) (mt : TypeId) : Prop := ∀ (mb : Option Nat) (w : World), Calls P kf #[.map mb] w fun e w' => e = .returned (.func (.func gf) #[] #[.pointer (some ⟨w.heap.size, 0, none⟩)]) ∧ w' = w.alloc (.cells #[.map mb] mt)
def SortedCall (P : Program) (sf gf cf : FuncId) (kk : K) (le : El kk → El kk → Bool) : Prop := ∀ (w : World) (S : Cells) (bx : Value) (ok : List (El kk) → Prop) (N : Nat), KGives P gf bx kk ok N w → (∀ b x, S b x → b < w.heap.size) → N ≤ 4294967296 → (∀ ks, ok ks → ks.length ≤ N) →
  Calls P sf #[.func (.func gf) #[] #[bx], .func (.func cf) #[] #[]] w fun e w' => ∃ v ks S', e = .returned v ∧ ok ks ∧ RepV w' S' (fun _ => none) (.val (.slice kk) (ks.mergeSort le)) v ∧ Ext (fun _ _ => False) w S (fun _ => none) w' S' (fun _ => none) (fun _ _ => False) ∧ ∀ b x, S' b x → b < w'.heap.size

theorem callIn {f : FuncId} {fn : Func} {o : Oper} {Q : Exit → Act → World → Prop} {next : Act → World → Prop} {args : Array Value} {R : Ending → World → Prop} (hf : P.funcs[f]? = some fn) (hn : (fn.name == "runtime.NumGoroutine") = false) (hb : fn.body.isSome = true) {xs : Array Operand} {ts : Array TypeId}
    (ho : o.op = .call { callee := .value (.func f), args := xs, argTypes := ts }) (hx : xs.map a.eval = args) (hc : Calls P f args w R) (hd : a.defers = []) (hR : ∀ e w', R e w' → ∃ v, e = .returned v ∧ next (withD [] (a.put o.dst v)) w') : o.wpIn (Fr none) 0 P (withD [] a) w next Q := by
  refine oper_in (fun c q => by rw [ho] at q; cases q) hd ?_
  have hex : (execOp a.eval o).run P w = .ok (.enter f args) w := by
    have g1 : fn.name ≠ "runtime.NumGoroutine" := by simpa using hn
    have g2 : fn.body ≠ none := fun e => by rw [e] at hb; cases hb
    have ef : a.eval (.func f) = .func (.func f) #[] #[] := rfl
    simp [execOp, ho, resolve, ef, hx, Deferred.ofValue, invoke, callFunc, Sem.run_bind, hf, g1, g2]
  unfold Oper.wp
  rw [hex, Oper.upon_enter]
  refine hc.mono fun e w' hr => ?_
  obtain ⟨v, rfl, hnext⟩ := hR e w' hr
  exact ⟨by cases o.dst <;> exact hd, hnext⟩
end

/-! ### A comparison of keys -/
section
variable {P : Program} {kk : K}
theorem cmp_calls {g : FuncId} {fn : Func} {F : SkEl (.tc (.val kk) (.tc (.val kk) .tn)) × ObsEl [] → Option (ResEl (.val (.int .i64)) [])} (hs : Sound P g { args := .tc (.val kk) (.tc (.val kk) .tn), objs := [], ret := .val (.int .i64), outs := [], F := F })
    (hf : P.funcs[g]? = some fn) (hname : (fn.name == "runtime.NumGoroutine") = false) (hbody : fn.body.isNone = false) (hp : plainK kk = true) (hagg : kk.isAgg = true) (cf : El kk → El kk → Int) (hcf : ∀ x y, F ((x, (y, ())), ()) = some (cf x y)) :
    ∀ (W : World) (x y : El kk), Calls P g #[.agg (encK kk x).toArray, .agg (encK kk y).toArray] W fun e w' => e = .returned (.int .i64 (cf x y)) ∧ ∃ q os', w' = grow (W.drewN q) os' := by
  intro w x y
  have hcall : (callFunc g #[.agg (encK kk x).toArray, .agg (encK kk y).toArray]).run P w = .ok (.enter g #[.agg (encK kk x).toArray, .agg (encK kk y).toArray]) w := by
    have g1 : fn.name ≠ "runtime.NumGoroutine" := by simpa using hname
    have g2 : fn.body ≠ none := fun e => by rw [e] at hbody; cases hbody
    simp [callFunc, Sem.run_bind, hf, g1, g2]
  have hst : StoRel (objs0 (fillOs [] ())) w (fun _ _ => False) (fun _ => none) := ⟨(fun i o h => by cases h), (fun i j o p u v _ h => by cases h), (fun i o u h => by cases h), (fun b y h => False.elim h)⟩
  have hrel : Rel { env := fun _ => .any 0, sto := objs0 (fillOs [] ()), done := fun _ => false } #[] w (fun _ _ => False) (fun _ => none) :=
    ⟨hst, fun t => .inl rfl, fun d _ _ => ⟨rfl, fun _ _ => rfl⟩, fun i _ => rfl⟩
  have rv : ∀ z : El kk, (T.val kk z).isAny = true ∨ ∃ cs, RepC w (fun _ _ => False) (fun _ => none) (.val kk z) cs ∧ Shut (T.val kk z).isAgg cs (.agg (encK kk z).toArray) := fun z => .inr ⟨encK kk z, rep_enc hp, by show Shut kk.isAgg _ _; rw [hagg]; simp [Shut]⟩
  have := hs w (fun _ _ => False) (fun _ => none) ((x, (y, ())), ()) (cf x y) [.agg (encK kk x).toArray, .agg (encK kk y).toArray] (hcf x y) ⟨_, _, rfl, rv x, _, _, rfl, rv y, rfl⟩ hrel fun _ _ => rfl
  rw [hcall] at this
  have this : Calls P g #[.agg (encK kk x).toArray, .agg (encK kk y).toArray] w _ := this
  refine this.mono fun e w' ⟨v, he, S', m', k1, k2, k3, k4⟩ => ?_
  subst he
  have k1 : RepV w' S' m' (.val (.int .i64) (cf x y)) v := k1
  rw [repV_int k1]
  refine ⟨rfl, grown_of_ext (k4.sub0 ?_)⟩
  intro b z ⟨i, o, u, h, _⟩
  cases h
end

def cmpI (a b : Int) : Int := if a < b then -1 else if a > b then 1 else 0
def cmp3 (x y : Int × Int × Int × Unit) : Int := if cmpI x.1 y.1 ≠ 0 then cmpI x.1 y.1 else if cmpI x.2.1 y.2.1 ≠ 0 then cmpI x.2.1 y.2.1 else cmpI x.2.2.1 y.2.2.1
theorem lt3 (x y : Int × Int × Int × Unit) : ltOf cmp3 x y = decide (x.1 < y.1 ∨ x.1 = y.1 ∧ (x.2.1 < y.2.1 ∨ x.2.1 = y.2.1 ∧ x.2.2.1 < y.2.2.1)) := by
  unfold ltOf cmp3 cmpI
  rw [Bool.eq_iff_iff]
  simp only [decide_eq_true_eq]
  split <;> split at * <;> (try split at *) <;> (try split at *) <;> (try split at *) <;> (try split at *) <;> omega
theorem swo3 : SWO (ltOf cmp3) where
  irrefl x := by rw [lt3]; simp
  trans x y z h1 h2 := by rw [lt3] at *; simp only [decide_eq_true_eq] at *; omega
  ntrans x y z h1 h2 := by rw [lt3] at *; simp only [decide_eq_false_iff_not] at *; omega
theorem tot3 (x y : Int × Int × Int × Unit) (h1 : ltOf cmp3 x y = false) (h2 : ltOf cmp3 y x = false) : x = y := by
  rw [lt3] at *
  simp only [decide_eq_false_iff_not] at *
  obtain ⟨a, b, c, _⟩ := x
  obtain ⟨d, e, f, _⟩ := y
  simp only at h1 h2
  have : a = d ∧ b = e ∧ c = f := by omega
  obtain ⟨rfl, rfl, rfl⟩ := this
  rfl
end Go.Proofs.D
