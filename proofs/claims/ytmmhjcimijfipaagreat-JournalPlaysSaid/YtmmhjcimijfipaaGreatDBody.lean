/- A function whose body the evaluator knows keeps its contract. -/
import Derived.Test.YtmmhjcimijfipaaGreatDCode
import Derived.Laws.Sem
set_option linter.unusedVariables false
set_option linter.unusedSimpArgs false
namespace Go.Proofs.D
open Go.RowKit

def chainLen : Sk → Option Nat | .tn => some 0 | .tc _ b => (chainLen b).map (· + 1) | _ => none

section
variable {P : Program} {C : Ctx} {q : Cuts} {s : St} {a : Act} {w : World} {S : Cells} {m : Nat → Option MB}

theorem chain_len : ∀ {sk : Sk} {x : SkEl sk} {n : Nat} {vs : List Value}, chainLen sk = some n → RepC w S m (fill sk x) vs → vs.length = n
  | .tn, x, n, vs, h, hr => by
    simp only [chainLen, Option.some.injEq] at h
    subst h
    have hr : vs = [] := hr
    rw [hr]; rfl
  | .tc a b, x, n, vs, h, hr => by
    simp only [chainLen] at h
    obtain ⟨k, h1, e⟩ := Option.map_eq_some_iff.1 h
    obtain ⟨v, r, e2, _, h2⟩ := hr
    rw [e2, ← e, List.length_cons, chain_len h1 h2]

theorem argT_ok : ∀ {t : T} {vs : List Value} (rest : List Value), RepC w S m t vs → (∀ v ∈ rest, v = undef) → ∀ i, RepV w S m (argT t i) ((vs ++ rest)[i]?.getD undef)
  | .tc a b, vs, rest, ⟨v, r, e, h1, h2⟩, hu, 0 => by subst e; exact h1
  | .tc a b, vs, rest, ⟨v, r, e, h1, h2⟩, hu, i + 1 => by
    subst e
    show RepV w S m (argT b i) _
    simpa using argT_ok rest h2 hu i
  | .any _, _, _, _, _, i => .inl rfl
  | .und, _, _, _, _, i => .inl rfl
  | .val _ _, _, _, _, _, i => .inl rfl
  | .nils _, _, _, _, _, i => .inl rfl
  | .nilr _, _, _, _, _, i => .inl rfl
  | .ptr _ _, _, _, _, _, i => .inl rfl
  | .row _, _, _, _, _, i => .inl rfl
  | .rptr _ _, _, _, _, _, i => .inl rfl
  | .mapr _, _, _, _, _, i => .inl rfl
  | .clo _ _, _, _, _, _, i => .inl rfl
  | .unit, _, _, _, _, i => .inl rfl
  | .pair _ _, _, _, _, _, i => .inl rfl
  | .tn, _, _, _, _, i => .inl rfl
  | .tup _, _, _, _, _, i => .inl rfl

def resultV (tmps : Array Value) : ResultVar → Sem Value
  | .tmp t => pure (tmps.getD t undef)
  | .cell a t => do loadVar t (← asAddr (tmps.getD a undef))

theorem resT_ok (hC : CtxOk P C) (hr : Rel s a.tmps w S m) : ∀ {l : List ResultVar} {t : T}, resT C s l = some t → ∃ vs, (l.mapM (resultV a.tmps)).run P w = .ok vs w ∧ RepC w S m t vs ∧
    ((∃ x, t = .tc x .tn) ∨ vs.length ≠ 1) ∧ (vs = [] → t = .tn)
  | [], t, h => by
    simp only [resT, Option.some.injEq] at h
    subst h
    exact ⟨[], rfl, rfl, .inr (by simp), fun _ => rfl⟩
  | .tmp u :: l, t, h => by
    simp only [resT] at h
    obtain ⟨b, h1, e⟩ := Option.map_eq_some_iff.1 h
    subst e
    obtain ⟨vs, k1, k2, k3, k4⟩ := resT_ok hC hr h1
    refine ⟨_ :: vs, ?_, ⟨_, _, rfl, hr.env u, k2⟩, ?_, fun q => by cases q⟩
    · rw [List.mapM_cons]
      simp [Sem.run_bind, resultV, k1]
    · cases vs with
      | nil => rw [k4 rfl]; exact .inl ⟨_, rfl⟩
      | cons v vs => exact .inr (by simp)
  | .cell u ty :: l, t, h => by
    simp only [resT] at h
    split at h
    case h_2 => cases h
    rename_i id p hs
    obtain ⟨hb, h⟩ := bif_some h
    split at h
    case h_2 => cases h
    rename_i c fz y ho
    obtain ⟨z, hz, h⟩ := Option.bind_eq_some_iff.1 h
    obtain ⟨b, h1, e⟩ := Option.map_eq_some_iff.1 h
    subst e
    obtain ⟨vs, k1, k2, k3, k4⟩ := resT_ok hC hr h1
    obtain ⟨d, g1, hc⟩ := isTyO_some hb
    have hv := hr.env u
    rw [hs] at hv
    obtain ⟨mu, hu, e1⟩ := repV_ptr hv
    have h1' := shapeP_some hr hu g1
    obtain ⟨-, f1, f2, cs, f3, f4, -⟩ := hr.obj hu ho
    rw [f1] at h1' e1
    obtain ⟨z', hk, hzf, hzr, hle⟩ := getT_ok f2 f4 h1' hz
    cases hk
    obtain ⟨v, h2, h3⟩ := (hC.ty _ _ hc).run_load (w := w) (rangeAt_sub f3 _ _) (RepC.length hzf hzr)
    refine ⟨v :: vs, ?_, ⟨_, _, rfl, repV_of hzf hzr h3, k2⟩, ?_, fun q => by cases q⟩
    · have h2' : (loadVar ty ⟨mu.b, mu.o + offK c p, none⟩).run P w = .ok v w := by
        simpa [Instr.loadAt, Instr.sureAddr, Sem.run_bind] using h2
      rw [List.mapM_cons]
      simp [Sem.run_bind, resultV, e1, asAddr, h2', k1]
    · cases vs with
      | nil => rw [k4 rfl]; exact .inl ⟨_, rfl⟩
      | cons v vs => exact .inr (by simp)

theorem tup1_tup {t : T} (h : ∀ x, t ≠ .tc x .tn) : tup1 t = .tup t := by
  unfold tup1
  split
  · rename_i x; exact absurd rfl (h x)
  · rfl

theorem results_ok (hC : CtxOk P C) (hr : Rel s a.tmps w S m) {fn : Func} {t : T} (h : resT C s fn.results.toList = some t) : ∃ v, (results fn a.tmps).run P w = .ok v w ∧ RepV w S m (tup1 t) v := by
  obtain ⟨vs, h1, h2, h3, h4⟩ := resT_ok hC hr h
  have hrun : (results fn a.tmps).run P w = .ok (if h : vs.toArray.size = 1 then vs.toArray[0] else .tuple vs.toArray) w := by
    have e : results fn a.tmps = (do let vs ← fn.results.mapM (resultV a.tmps); pure (if h : vs.size = 1 then vs[0] else .tuple vs)) := by
      unfold results
      congr 1
    rw [e]
    simp [Sem.run_bind, Array.mapM_eq_mapM_toList, h1]
  refine ⟨_, hrun, ?_⟩
  by_cases hx : ∃ x, t = .tc x .tn
  · obtain ⟨x, e⟩ := hx
    subst e
    obtain ⟨v, r, e, k1, k2⟩ := h2
    have k2 : r = [] := k2
    subst e; subst k2
    exact k1
  · have hl := h3.resolve_left hx
    rw [tup1_tup fun x e => hx ⟨x, e⟩]
    have : ¬ vs.toArray.size = 1 := by simpa using hl
    rw [dif_neg this]
    exact .inr ⟨_, ⟨vs, h2, rfl⟩, by simp [Shut, T.isAgg]⟩

theorem res1_mk : ∀ (r : Sk) (l : List ObSk) (x : SkEl r) (y : ObsEl l), res1 (mkRes r l x y) = x
  | _, [], _, _ => rfl | _, _ :: _, _, _ => rfl
theorem res2_mk : ∀ (r : Sk) (l : List ObSk) (x : SkEl r) (y : ObsEl l), res2 (mkRes r l x y) = y
  | _, [], _, _ => rfl | _, _ :: _, _, _ => rfl

/-- Where a body ends. -/
theorem end_ok (hC : CtxOk P C) {fn : Func} {objs outs : List ObSk} {ret : Sk} {y : ResEl ret outs} {np : Nat} (hnp : np = objs.length) {O0 : Cells} {w0 : World} {S0 : Cells} {m0 : Nat → Option MB} {s' : St} {a' : Act} {w' : World} {S' : Cells} {m' : Nat → Option MB}
    (h : At C np O0 w0 S0 m0 s' a' w' S' m')
    (hk : (match resT C s' fn.results.toList with
      | none => none
      | some l => (unT s'.sto 100000000 ret (tup1 l) (idBindsG outs objs.length, [])).bind fun v =>
        (unOs s'.sto 100000000 outs 0 v.2).bind fun w => bif distinct w.2.1.ids && keysB w.2.1 && flagsOk (upds w.2.2 s'.sto) w.2.1 0 outs && (Nat.ble objs.length 1000 && keysG outs objs.length w.2.1) then some (mkRes ret outs v.1 w.1) else none) = some y) :
      a'.defers = [] ∧ ∃ v, (results fn a'.tmps).run P w' = .ok v w' ∧ ∃ v', Ending.returned v = .returned v' ∧ ∃ S' m', RepV w' S' m' (fill ret (res1 y)) v' ∧
        Rel { env := fun _ => .any 0, sto := objs0 (fillOs outs (res2 y)), done := fun _ => false } #[] w' S' m' ∧
        (∀ i u, i < objs.length → m0 i = some u → m' i = some u) ∧
        Ext O0 w0 S0 (fun _ => none) w' S' (fun _ => none) (OwnSt (objs0 (fillOs outs (res2 y))) m') := by
  split at hk
  · cases hk
  rename_i l hl
  obtain ⟨⟨r, u⟩, e1, hk1⟩ := Option.bind_eq_some_iff.1 hk
  obtain ⟨⟨ob, ρ, ups⟩, e2, hk2⟩ := Option.bind_eq_some_iff.1 hk1
  obtain ⟨hb2, hk3⟩ := bif_some hk2
  clear hk hk1 hk2
  cases hk3
  simp only [Bool.and_eq_true] at hb2
  obtain ⟨⟨⟨c1, c2⟩, c3⟩, c4, c5⟩ := hb2
  have c4 := Nat.le_of_ble_eq_true c4
  obtain ⟨v, hv1, hv2⟩ := results_ok hC h.rel hl
  refine ⟨h.tm.2, v, hv1, v, rfl, ?_⟩
  have hr := h.rel
  have hnb : ∀ k, k < 500 → m' (100000000 + k) = none := fun k _ => hr.top _ (by omega)
  rcases hv2 with hv2 | ⟨cs, hv2, hv3⟩
  · rw [unT_any e1] at hv2; cases hv2
  obtain ⟨⟨S1, m1, f1, told⟩, hag, _⟩ := unT_ok hr.toStoRel hnb (Later.start hr.toStoRel outs objs.length) hv2 e1
  obtain ⟨S2, m2, f2, htold⟩ := unOs_ok hr.toStoRel hnb f1.later e2
  obtain ⟨st, hown, _⟩ := un_final f2.later (fun j ob q => by have := htold j ob q; rwa [Nat.zero_add] at this) c1 c3
  have hown' : ∀ b y', OwnSt (objs0 (fillOs outs ob)) (bindM ρ m2) b y' → OwnSt (upds ups s'.sto) m2 b y' := fun b y' q => (hown b y' q).st
  have hsame : ∀ i o, objs0 (fillOs outs ob) i = some o → patchM outs objs.length ρ m2 i = bindM ρ m2 i := fun i o ho => by
    unfold patchM; rw [if_neg fun q => by rw [obAt_fill ho] at q; cases q.2]
  have hle : ∀ i u, bindM ρ m2 i = some u → patchM outs objs.length ρ m2 i = some u := fun i u q => patchM_le c5 q
  have hbig : ∀ i, 1000 ≤ i → patchM outs objs.length ρ m2 i = none := fun i hi => patchM_big c2 c4 hi (bindM_big c2 hi)
  refine ⟨S2, patchM outs objs.length ρ m2, .inr ⟨cs, ?_, ?_⟩, ⟨?_, fun t => .inl rfl, fun d _ _ => ⟨hbig _ (by omega), fun k _ => hbig _ (by omega)⟩, fun i hi => hbig _ (by omega)⟩, fun i u hi q => ?_, ?_⟩
  · rw [res1_mk]; exact (told ρ S2 m2 f2.le f2.keeps f2.maps).keep (Keeps.refl ..) hle
  · rw [res1_mk, ← hag]; exact hv3
  · rw [res2_mk]; exact st.remap hle hsame
  · have g2 := f2.maps _ _ (f1.maps _ _ (h.keep i u (by rw [hnp]; exact hi) q))
    cases hg : isGone (obAt outs i) with
    | true => unfold patchM; rw [if_pos ⟨hi, hg⟩]; exact g2
    | false =>
      have g1 := f2.le _ _ (f1.le _ _ (idBindsG_find hg hi))
      exact hle _ _ (by simp [bindM, g1, g2, subM])
  · rw [res2_mk]
    exact h.ext.trans (f2.later.step.ext.sub fun b y' q => hown' b y' (OwnSt.remap hsame q)).drop

/-- **A function's contract, from its body.** -/
theorem body_sound (hC : CtxOk P C) (hm : P.follows .mixedOrders = true) {f : FuncId} {fn : Func} {sg : Sig} {n : Nat} (hf : P.funcs[f]? = some fn) (hname : (fn.name == "runtime.NumGoroutine") = false) (hbody : fn.body.isNone = false) (hn : fn.ntmps = C.n)
    (hlen : chainLen sg.args = some n) (hle : n ≤ C.n) (hnp : q.np = sg.objs.length) (hF : (fun x => body C q fn sg.args sg.objs sg.ret sg.outs x) = sg.F) (hgiv : ∀ c, fn.body = some c → GivenIn P C q c := by exact fun c _ => GivenIn.none (fun _ _ => rfl) c) : Sound P f sg := by
  intro w S m x y vals hy hargs hrel hbig
  have hcall : (callFunc f vals.toArray).run P w = .ok (.enter f vals.toArray) w := by
    have g1 : fn.name ≠ "runtime.NumGoroutine" := by simpa using hname
    have g2 : fn.body ≠ none := fun e => by rw [e] at hbody; cases hbody
    simp [callFunc, Sem.run_bind, hf, g1, g2]
  rw [hcall]
  show Calls P f vals.toArray w _
  rw [← hF] at hy
  have hy : body C q fn sg.args sg.objs sg.ret sg.outs x = some y := hy
  unfold body at hy
  split at hy
  · cases hy
  rename_i c hb
  refine calls_of_wp hf hb ?_
  have hvl := chain_len hlen hargs
  have hA : At C q.np (OwnSt (objs0 (fillOs sg.objs x.2)) m) w S m { env := argT (fill sg.args x.1), sto := objs0 (fillOs sg.objs x.2), done := fun _ => false }
      { tmps := vals.toArray ++ Array.replicate (fn.ntmps - vals.toArray.size) undef, defers := [] } w S m := by
    refine ⟨⟨hrel.toStoRel, fun t => ?_, hrel.fresh, hrel.top⟩, ⟨?_, rfl⟩, (Ext.refl ..), fun i u _ h => h⟩
    · have := argT_ok (List.replicate (fn.ntmps - vals.length) undef) hargs (fun v hv => List.eq_of_mem_replicate hv) t
      have e : ((vals ++ List.replicate (fn.ntmps - vals.length) undef)[t]?.getD undef) = ((vals.toArray ++ Array.replicate (fn.ntmps - vals.toArray.size) undef).getD t undef) := by
        rw [Array.getD_eq_getD_getElem?, ← Array.getElem?_toList]
        simp
      rw [← e]; exact this
    · simp [hn]; omega
  refine eval_ok hC hm c (hgiv c hb) hy hA _ fun e s' a' w' S' m' hk h => ?_
  have fin := fun hk => end_ok (fn := fn) (y := y) hC hnp h hk
  cases e with
  | normal => exact fin hk
  | ret => exact fin hk
  | exit i => cases hk
  | goto i => cases hk
end
end Go.Proofs.D
