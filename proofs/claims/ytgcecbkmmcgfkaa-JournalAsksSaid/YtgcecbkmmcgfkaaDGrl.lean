/- The loop that groups, whole. -/
import Derived.Test.YtgcecbkmmcgfkaaDGrq
set_option linter.unusedVariables false
set_option linter.unusedSimpArgs false
namespace Go.Proofs.D
open Go.RowKit

section
variable {P : Program} {C : Ctx} {fn : Func} {kk : K} {t tk tv : TypeId} {a a' : Act} {w w' : World} {S S' : Cells} {m m' : Nat → Option MB} {O0 : Cells} {w0 : World} {S0 : Cells} {m0 : Nat → Option MB}

theorem MapL.turn : ∀ {hs : List (El kk × El .hdr)} {es : Es kk} {fs : List MapEntry}, hs.map (·.1) = es.map (·.1) → (∀ (j : Nat) (p : El kk × List Int) (q : El kk × El .hdr), es[j]? = some p → hs[j]? = some q → Rep w S (.slice kI) p.2 [q.2]) → MapL w S kk .hdr hs fs → MapL w S kk (.slice kI) es fs
  | [], [], [], _, _, _ => trivial
  | [], [], _ :: _, _, _, h => h.elim
  | [], _ :: _, _, h, _, _ => by simp at h
  | _ :: _, [], _, h, _, _ => by simp at h
  | _ :: _, _ :: _, [], _, _, h => h.elim
  | p :: hs, q :: es, f :: fs, hk, hr, ⟨h1, ⟨cs, ⟨r1, r2⟩, r3⟩, h3⟩ => by
    simp only [List.map_cons, List.cons.injEq] at hk
    refine ⟨by rw [← hk.1]; exact h1, ⟨[p.2], hr 0 q p rfl rfl, ?_⟩, MapL.turn hk.2 (fun j p' q' a b => hr (j + 1) p' q' (by simpa using a) (by simpa using b)) h3⟩
    subst r1
    simpa [Shut, K.isAgg] using r3

def gE (kk : K) (b0 : Bool) : List (Nat × T) := [(2, .nils (eOp kk)), (3, .val .bool b0), (4, .mapr 0)]

theorem grp_freeze {b0 : Bool} {bm : Nat} {es : Es kk} {hs : List (El kk × El .hdr)} {fs : Array MapEntry} {clock : Nat} (h : At C 0 O0 w0 S0 m0 (mkR (gE kk b0) [] (rowS es) []) a w S m) (G : Grp w S m bm es hs fs clock) :
    ∀ k, k ≤ es.length → ∃ S', At C 0 O0 w0 S0 m0 (mkR (gE kk b0) [] (fun l => if 100000 + k ≤ l then rowS es l else none) []) a w S' m ∧ Keeps w S w S' ∧ (∀ x, ¬ S' bm x) ∧ ∀ j p q, j < k → es[j]? = some p → hs[j]? = some q → Rep w S' (.slice kI) p.2 [q.2]
  | 0, _ => by
    refine ⟨S, ?_, Keeps.refl .., G.noS, fun j p q hj => absurd hj (Nat.not_lt_zero _)⟩
    have e : (fun l => if 100000 + 0 ≤ l then rowS es l else none) = rowS es := by
      funext l; unfold rowS; split <;> rfl
    rw [e]; exact h
  | k + 1, hk => by
    obtain ⟨S1, h1, k1, n1, r1⟩ := grp_freeze h G k (by omega)
    have hlen : hs.length = es.length := by simpa using congrArg List.length G.keys
    obtain ⟨p, hp⟩ : ∃ p, es[k]? = some p := ⟨_, List.getElem?_eq_getElem (by omega)⟩
    obtain ⟨q, hq⟩ : ∃ q, hs[k]? = some q := ⟨_, List.getElem?_eq_getElem (by omega)⟩
    obtain ⟨u, hu, hv⟩ := G.rows k q hq
    have hs0 : (mkR (gE kk b0) [] (fun l => if 100000 + k ≤ l then rowS es l else none) []).sto (100000 + k) = some (.row kI false p.2) := by
      rw [mkR_sto, stoR_nil, if_pos (Nat.le_refl _)]; exact rowS_at hp
    obtain ⟨S2, st, hrep, _⟩ := StoRel.freezeRow h1.rel.toStoRel hs0 hu
    have st2 := st.trans (StoRel.less st.rel (σ' := (mkR (gE kk b0) [] (fun l => if 100000 + (k + 1) ≤ l then rowS es l else none) []).sto) fun l o hl => by
      rw [mkR_sto, stoR_nil] at hl
      by_cases e : 100000 + (k + 1) ≤ l
      · rw [if_pos e] at hl
        rw [upd_ne (by omega), mkR_sto, stoR_nil, if_pos (by omega)]; exact hl
      · rw [if_neg e] at hl; cases hl)
    refine ⟨S2, h1.ghostR st2 h1.tm (fun l => (h1.rel.env l).keep st2.keeps st2.ext.maps) (fun d hd hn => h1.rel.fresh d hd hn) h1.rel.top, k1.trans st2.keeps, fun x hx => ?_, fun j p' q' hj hp' hq' => ?_⟩
    · have hno := h1.notOwn (noMapR (E := gE kk b0) (O := []) (d := []) rfl fun l o q => by split at q; exact rowS_noMap l o q; cases q) G.hb rfl
      have hlt := (Array.getElem?_eq_some_iff.1 G.hb).1
      rcases st2.ext.less bm x hx with q | q | q
      · exact n1 x q
      · exact hno x q
      · omega
    · rcases Nat.lt_or_ge j k with q | q
      · exact (r1 j p' q' q hp' hq').keep st2.keeps
      · have : j = k := by omega
        subst this
        rw [hp] at hp'; cases hp'
        rw [hq] at hq'; cases hq'
        rw [← hv]; exact hrep

theorem grpGo_nodup (hf : kk.flat = true) : ∀ (xs : List (El (eOp kk))) {es : Es kk}, (es.map (·.1)).Nodup → ((grpGo xs es).map (·.1)).Nodup
  | [], _, h => h
  | x :: l, es, h => grpGo_nodup hf l (putM_nodup (v := .slice kI) hf h)

theorem grp_exit {b0 : Bool} {bm : Nat} {es : Es kk} {hs : List (El kk × El .hdr)} {fs : Array MapEntry} {clock : Nat} (hfl : kk.flat = true) (hbO : (∀ x, O0 bm x) ∨ w0.heap.size ≤ bm) (h : At C 0 O0 w0 S0 m0 (mkR (gE kk b0) [] (rowS es) []) a w S m) (G : Grp w S m bm es hs fs clock) (hn : (es.map (·.1)).Nodup) :
    ∃ S', At C 0 O0 w0 S0 m0 (mkS (gE kk b0) [(0, .map kk (.slice kI) es)] []) a w S' m := by
  obtain ⟨S1, h1, k1, n1, r1⟩ := grp_freeze h G es.length (Nat.le_refl _)
  obtain ⟨um, u1, u2, u3⟩ := G.um
  have e := h1.ext
  have hlen : hs.length = es.length := by simpa using congrArg List.length G.keys
  have hst : ∀ i o, (mkS (gE kk b0) [(0, Obj.map kk (.slice kI) es)] []).sto i = some o → i = 0 ∧ o = .map kk (.slice kI) es := fun i o ho => by
    have := stoL_mem (show stoL _ i = some o from ho)
    simp only [List.mem_cons, List.not_mem_nil, or_false, Prod.mk.injEq] at this
    exact this
  refine ⟨S1, ⟨⟨⟨fun i o ho => ?_, fun i j o p u v hij ho hp => ?_, fun i o u ho hu b x hx hy => ?_, h1.rel.live⟩, fun t => h1.rel.env t, fun d hd hn => h1.rel.fresh d hd hn, h1.rel.top⟩, h1.tm,
    ⟨e.os, e.tape, e.output, e.size, e.maps, e.more, e.less, fun b x ⟨i, o, u, ho, hu, hy⟩ => ?_, e.cell, e.block⟩, fun i u hi => absurd hi (Nat.not_lt_zero _)⟩⟩
  · obtain ⟨e1, e2⟩ := hst i o ho
    subst e1; subst e2
    refine ⟨um, u1, by rw [u2, u3], hfl, fs, clock, by rw [u3]; exact G.hb, ?_, G.hB⟩
    refine ⟨hn, es, .refl _, ?_⟩
    exact MapL.turn G.keys (fun j p q hp hq => r1 j p q (List.getElem?_eq_some_iff.1 hp).1 hp hq) (G.hM.keep k1)
  · exact absurd ((hst i o ho).1.trans (hst j p hp).1.symm) hij
  · obtain ⟨e1, e2⟩ := hst i o ho
    subst e1; subst e2
    rw [u1] at hu; cases hu
    have : b = um.b := hy
    subst this
    rw [u3] at hx
    exact n1 x hx
  · obtain ⟨e1, e2⟩ := hst i o ho
    subst e1; subst e2
    rw [u1] at hu; cases hu
    have : b = um.b := hy
    rw [this, u3]
    rcases hbO with q | q
    · exact .inl (q x)
    · exact .inr q

def grpG (kk : K) (v : (Unit × Bool × Unit × List (El (eOp kk)) × Int × Int) × (Es kk × Unit)) : Option ((Unit × Bool × Unit) × (Es kk × Unit)) :=
  bif decide (v.1.2.2.2.2.1 = v.1.2.2.2.1.length) && (decide (v.1.2.2.2.2.2 = 0) && (Nat.ble v.1.2.2.2.1.length 99999 && v.2.1.isEmpty)) then some (((), (v.1.2.1, ())), (grpGo v.1.2.2.2.1 [], ())) else none
def grpGiven (kk : K) : Given := { hd := { env := [(2, .nils (eOp kk)), (3, .val .bool), (4, .mapr 0), (13, .val (.slice (eOp kk))), (14, .val kI), (15, .val kI)], objs := [.map kk (.slice kI)] }, outs := [(.exit 0, { env := [(2, .nils (eOp kk)), (3, .val .bool), (4, .mapr 0)], objs := [.map kk (.slice kI)] })], G := grpG kk }

def muG (n : Nat) (a : Act) : Nat := match a.tmps.getD 15 undef with | .int _ i => (n - i).toNat | _ => 0

theorem grp_ok (hC : CtxOk P C) (F : GrpFacts P C fn kk t tk tv) : CodeOk P C 0 (.loop (grpBody fn)) (grpGiven kk) := by
  intro O0 w0 S0 m0 v z a w S m hG h Q hQ
  obtain ⟨⟨_, b0, _, xs, n, i⟩, es0, _⟩ := v
  have hG : grpG kk (((), (b0, ((), (xs, (n, i))))), (es0, ())) = some z := hG
  unfold grpG at hG
  obtain ⟨hb, hG⟩ := bif_some hG
  simp only [Bool.and_eq_true, decide_eq_true_eq] at hb
  obtain ⟨hn, hi, hl, he⟩ := hb
  have hl := Nat.le_of_ble_eq_true hl
  have he : es0 = [] := by cases es0 with | nil => rfl | cons => cases he
  subst hn; subst hi; subst he
  cases hG
  -- the map is taken out
  obtain ⟨um, hu, g0, gf, fs, clock, g1, ⟨-, es0, gp, g2⟩, gB'⟩ := h.rel.sto 0 (.map kk (.slice kI) []) rfl
  have gp := gp.eq_nil
  subst gp
  have hfs : fs.toList = [] := by
    cases hq : fs.toList with
    | nil => rfl
    | cons f r => rw [hq] at g2; exact g2.elim
  have hbO : (∀ x, O0 um.b x) ∨ w0.heap.size ≤ um.b := by
    by_cases q : w0.heap.size ≤ um.b
    · exact .inr q
    · refine .inl fun x => ?_
      rcases h.ext.own um.b x ⟨0, .map kk (.slice kI) [], um, rfl, hu, rfl⟩ with r | r
      · exact r
      · exact absurd r q
  have noS : ∀ x, ¬ S um.b x := fun x hx => h.rel.stab 0 (.map kk (.slice kI) []) um rfl hu um.b x hx rfl
  have h0 : At C 0 O0 w0 S0 m0 (mkR (gB b0 xs xs.length ((0 : Nat) : Int)) [] (rowS ([] : Es kk)) []) a w S (fun l => if l = 0 then m 0 else none) := by
    refine h.ren (fun l => l) (fun i j o p ho => ?_) (fun i o ho => ?_) h.tm (env_of fun p hp => ?_) (fun d _ _ => if_neg (by omega)) (fun i hi => if_neg (by omega))
    · obtain ⟨_, _, _, q, _⟩ := rowS_inv (show rowS [] i = some o from ho); simp at q
    · obtain ⟨_, _, _, q, _⟩ := rowS_inv (show rowS [] i = some o from ho); simp at q
    · simp only [gB, List.mem_cons, List.not_mem_nil, or_false] at hp
      rcases hp with e | e | e | e | e | e <;> subst e
      · exact (h.rel.env 2 : RepV w S m (.nils (eOp kk)) _)
      · exact (h.rel.env 3 : RepV w S m (.val .bool b0) _)
      · obtain ⟨u, kb, q1, q2, q3⟩ := repV_mapr (i := 0) (h.rel.env 4 : RepV w S m (.mapr 0) _)
        rw [hu] at q1; cases q1
        exact .inr ⟨[_], ⟨um, by show (if 0 = 0 then m 0 else none) = _; rw [if_pos rfl]; exact hu, rfl, kb, q3.symm.trans q2⟩, by rw [q3]; show Shut false _ _; simp [Shut]⟩
      · exact (h.rel.env 13 : RepV w S m (.val (.slice (eOp kk)) xs) _)
      · exact (h.rel.env 14 : RepV w S m (.val kI xs.length) _)
      · exact (h.rel.env 15 : RepV w S m (.val kI 0) _)
  have G0 : Grp w S (fun l => if l = 0 then m 0 else none) um.b ([] : Es kk) [] fs clock := ⟨⟨um, by show (if 0 = 0 then m 0 else none) = _; rw [if_pos rfl]; exact hu, g0, rfl⟩, g1, by rw [hfs]; trivial, gB', rfl, fun j p hp => by simp at hp, noS⟩
  refine (wpIn_wide (n := 0)).1 ?_
  show Code.wpIn (Fr none) 0 P _ _ a w
  refine wpIn_loop (fun a w => ∃ (i : Nat) (S : Cells) (m : Nat → Option MB) (es : Es kk) (hs : List (El kk × El .hdr)) (fs : Array MapEntry) (clock : Nat), i ≤ xs.length ∧ At C 0 O0 w0 S0 m0 (mkR (gB b0 xs xs.length (i : Int)) [] (rowS es) []) a w S m ∧ Grp w S m um.b es hs fs clock ∧ grpGo (xs.drop i) es = grpGo xs [] ∧ es.length ≤ i ∧ ∀ p ∈ es, p.2.length ≤ i) (fun a _ => muG xs.length a) ?_ ?_
  · exact ⟨0, S, _, [], [], fs, clock, Nat.zero_le _, h0, G0, by simp, Nat.le_refl _, fun p hp => by cases hp⟩
  · rintro a1 w1 ⟨i, S1, m1, es, hs, fs1, clock1, hil, h1, G1, hgo, hel, hvl⟩
    rw [← withD_self h1.tm.2]
    refine wpIn_seq (At.regR (E' := gB3 b0 xs xs.length i (decide ((i : Int) < xs.length))) (O' := []) (ρ' := rowS es) (d' := []) hC rfl h1 rfl rfl (fun i o q => rowS_ge q) (F.q3 ..) fun a2 w2 S2 m2 h2 k2 d2 x2 => ?_)
    have G2 := G1.step h1 (noMapR rfl rowS_noMap) x2
    refine wpIn_seq (wpIn_cond_env h2 (b := decide ((i : Int) < xs.length)) rfl (fun hb => wpIn_skip ?_) fun hb => wpIn_exit ?_)
    · have hlt : i < xs.length := by simpa using hb
      show Code.wpIn _ _ _ _ _ _ _
      refine grp_tail hC F hbO h2 G2 (List.getElem?_eq_getElem hlt) (by omega) hel hvl fun a3 w3 S3 m3 hs3 fs3 clock3 h3 G3 => ?_
      rw [withD_self h3.tm.2]
      have e15 : a3.tmps.getD 15 undef = .int .i64 ((i + 1 : Nat) : Int) := repV_int (h3.rel.env 15)
      have f15 : a1.tmps.getD 15 undef = .int .i64 (i : Int) := repV_int (h1.rel.env 15)
      refine ⟨⟨i + 1, S3, m3, _, hs3, fs3, clock3, by omega, h3, G3, ?_, ?_, gAdd_all F.hfl hvl⟩, ?_⟩
      · rw [← hgo, List.drop_eq_getElem_cons hlt]; rfl
      · have := gAdd_len (es := es) (xs[i]).1 (xs[i]).2.1; omega
      · rw [withD_self h1.tm.2]
        unfold muG
        rw [e15, f15]
        simp only
        omega
    · have hge : i = xs.length := by have : ¬ (i : Int) < xs.length := by simpa using hb
                                     omega
      subst hge
      rw [List.drop_length] at hgo
      have hgo : es = grpGo xs [] := hgo
      have h3 : At C 0 O0 w0 S0 m0 (mkR (gE kk b0) [] (rowS es) []) a2 w2 S2 m2 := h2.told (fun t => envL_or (f := (mkR (gB3 b0 xs xs.length xs.length (decide ((xs.length : Int) < xs.length))) [] (rowS es) []).env) (fun p hp => by
        simp only [gE, List.mem_cons, List.not_mem_nil, or_false] at hp
        rcases hp with e | e | e <;> subst e <;> rfl) t) rfl rfl
      obtain ⟨S3, h4⟩ := grp_exit F.hfl hbO h3 G2 (by rw [hgo]; exact grpGo_nodup F.hfl xs List.nodup_nil)
      rw [withD_self h2.tm.2]
      subst hgo
      exact hQ (.exit 0) _ a2 w2 S3 m2 (fun R κ => rfl) (h4.same (fun t => rfl) fun i o ho => by
        match i, ho with
        | 0, ho => exact ho
        | i + 1, ho => cases ho)
end
end Go.Proofs.D
