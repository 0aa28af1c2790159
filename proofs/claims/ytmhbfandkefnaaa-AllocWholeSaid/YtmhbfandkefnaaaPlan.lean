/- What a plan gives: plain. -/
import Derived.Test.YtmhbfandkefnaaaGives
import Derived.Test.YtmhbfandkefnaaaTurns
import Derived.Test.YtmhbfandkefnaaaProgGood
set_option linter.unusedVariables false
namespace Go.Proofs.Pure
open Go.Proofs.D Go.Proofs.F

abbrev Grid := List (List Int)
def rowG (g : Grid) (k : Nat) : List Int := g.getD k []
def cellG (g : Grid) (k w : Nat) : Int := (rowG g k).getD w 0

def owe (r : List Int × Int × Unit) (sku : Int) : List Ln := bif decide (r.2.1 > 0) then [(sku, (r.2.1, ()))] else []
def plan1 (c : Cg) (free : Grid) (pol : Int) : List Ln → Grid × List Ln → Option (Grid × List Ln)
  | [], a => some a
  | x :: l, a => bif decide ((splitOf c x.1 x.2.1 (rowG free x.1.toNat)).2.1 > 0) && (pol == 1) then none
      else plan1 c free pol l (a.1.set x.1.toNat (splitOf c x.1 x.2.1 (rowG free x.1.toNat)).1, a.2 ++ owe (splitOf c x.1 x.2.1 (rowG free x.1.toNat)) x.1)

structure GridOk (c : Cg) (free g : Grid) : Prop where
  len : g.length = 4
  row : ∀ k : Nat, k < 4 → (rowG g k).length = 4
  pos : ∀ k w : Nat, k < 4 → w < 4 → 0 ≤ cellG g k w ∧ cellG g k w ≤ max0 (cellG free k w)
  wares : ∀ k w : Nat, k < 4 → w < 4 → c.2.1 ≤ (w : Int) → cellG g k w = 0
  skus : ∀ k w : Nat, k < 4 → w < 4 → c.1 ≤ (k : Int) → cellG g k w = 0

def zeroG : Grid := List.replicate 4 (List.replicate 4 0)
theorem zero_row (k : Nat) (hk : k < 4) : rowG zeroG k = List.replicate 4 0 := by
  unfold rowG zeroG
  rw [List.getD_eq_getElem?_getD, List.getElem?_replicate, if_pos hk]; rfl
theorem zero_cell (k w : Nat) (hk : k < 4) : cellG zeroG k w = 0 := by
  unfold cellG
  rw [zero_row k hk, List.getD_eq_getElem?_getD, List.getElem?_replicate]; split <;> rfl
theorem zero_ok (c : Cg) (free : Grid) : GridOk c free zeroG :=
  ⟨rfl, fun k hk => by rw [zero_row k hk]; rfl, fun k w hk _ => by rw [zero_cell k w hk]; exact ⟨Int.le_refl _, max0_le _⟩, fun k w hk _ _ => zero_cell k w hk, fun k w hk _ _ => zero_cell k w hk⟩

theorem row_set {g : Grid} {n k : Nat} {r : List Int} (hg : g.length = 4) (hn : n < 4) : rowG (g.set n r) k = if n = k then r else rowG g k := by
  unfold rowG
  rw [List.getD_eq_getElem?_getD, List.getElem?_set]
  by_cases h : n = k
  · subst h; simp [hg, hn]
  · simp [h]

/-- Of each article: what is taken and what is owed come to what is ordered. -/
theorem plan1_props {c : Cg} (hc : Prio c) {free : Grid} (hf : ∀ k : Nat, k < 4 → (rowG free k).length = 4) {pol : Int} : ∀ (l : List Ln) (lo : Int) (g : Grid) (o : List Ln) (g' : Grid) (o' : List Ln), -1 ≤ lo → lnFrom lo l → (∀ x ∈ l, x.1 < c.1) →
    GridOk c free g → (∀ k : Nat, k < 4 → lo < (k : Int) → total (rowG g k) = 0) → plan1 c free pol l (g, o) = some (g', o') →
    GridOk c free g' ∧ (∀ k : Nat, k < 4 → (k : Int) ≤ lo → rowG g' k = rowG g k) ∧ ∃ o1, o' = o ++ o1 ∧ lnFrom lo o1 ∧ o1.length ≤ l.length ∧ (∀ x ∈ o1, x.1 < c.1 ∧ ∃ y ∈ l, x.2.1 ≤ y.2.1) ∧ (∀ k : Nat, k < 4 → total (rowG g' k) + L k o1 = total (rowG g k) + L k l) ∧ (pol = 1 → o1 = [])
  | [], lo, g, o, g', o', _, _, _, hg, hz, h => by
    simp only [plan1, Option.some.injEq, Prod.mk.injEq] at h
    obtain ⟨e1, e2⟩ := h
    subst e1; subst e2
    exact ⟨hg, fun _ _ _ => rfl, [], (List.append_nil _).symm, trivial, Nat.le_refl _, (fun x hx => absurd hx List.not_mem_nil), (fun k _ => rfl), (fun _ => rfl)⟩
  | x :: l, lo, g, o, g', o', hlo, ⟨h1, h2, h3, h4⟩, hs, hg, hz, h => by
    have hxs := hs x List.mem_cons_self
    have hsk : 1 ≤ c.1 ∧ c.1 ≤ 3 := by rcases hc.skus with e | e | e <;> omega
    obtain ⟨n, hn⟩ : ∃ n : Nat, x.1 = (n : Int) := Int.eq_ofNat_of_zero_le (by omega)
    have hn4 : n < 4 := by omega
    have hG := split_given hc x.1 x.2.1 (rowG free x.1.toNat) ⟨by omega, hxs⟩ h3 (hf _ (by omega))
    simp only [plan1] at h
    generalize hr : splitOf c x.1 x.2.1 (rowG free x.1.toNat) = r at h hG
    have hnt : x.1.toNat = n := by omega
    rw [hnt] at h hG
    cases hb : (decide (r.2.1 > 0) && (pol == 1)) with
    | true => rw [hb] at h; cases h
    | false =>
      rw [hb] at h
      simp only [cond_false] at h
      have hcell : ∀ k w : Nat, cellG (g.set n r.1) k w = if n = k then r.1.getD w 0 else cellG g k w := fun k w => by
        unfold cellG
        rw [row_set hg.len hn4]; split <;> rfl
      have hg1 : GridOk c free (g.set n r.1) := by
        refine ⟨by simpa using hg.len, fun k hk => ?_, fun k w hk hw => ?_, fun k w hk hw hcw => ?_, fun k w hk hw hck => ?_⟩
        · rw [row_set hg.len hn4]
          split
          · exact hG.len
          · exact hg.row k hk
        · rw [hcell]
          split
          · rename_i e; subst e; exact hG.pos w hw
          · exact hg.pos k w hk hw
        · rw [hcell]
          split
          · exact hG.out w hw hcw
          · exact hg.wares k w hk hw hcw
        · rw [hcell]
          split
          · rename_i e; subst e; omega
          · exact hg.skus k w hk hw hck
      obtain ⟨a1, a2, o1, a3, a4, a5, a6, a7, a8⟩ := plan1_props hc hf l x.1 (g.set n r.1) (o ++ owe r x.1) g' o' (by omega) h4 (fun y hy => hs y (List.mem_cons_of_mem _ hy)) hg1 (fun k hk hlt => by
        rw [row_set hg.len hn4, if_neg (by omega)]
        exact hz k hk (by omega)) h
      have hall := hG.all
      have hrest := hG.rest
      have htot : total r.1 = total (List.replicate 4 (0 : Int)) + total r.1 := by show total r.1 = 0 + total r.1; omega
      refine ⟨a1, fun k hk hle => ?_, owe r x.1 ++ o1, by rw [a3, List.append_assoc], ?_, ?_, ?_, fun k hk => ?_, fun hp => ?_⟩
      · rw [a2 k hk (by omega), row_set hg.len hn4, if_neg (by omega)]
      · unfold owe
        by_cases q : r.2.1 > 0
        · rw [dec_t q]
          exact ⟨h1, by show x.1 < 4; omega, by show 1 ≤ r.2.1; omega, a4⟩
        · rw [dec_f q]
          revert a4
          cases o1 with
          | nil => exact fun _ => trivial
          | cons y r => exact fun h => ⟨by have := h.1; omega, h.2⟩
      · have : (owe r x.1).length ≤ 1 := by unfold owe; cases decide (r.2.1 > 0) <;> simp
        simp only [List.length_append, List.length_cons]; omega
      · intro y hy
        rcases List.mem_append.1 hy with hy | hy
        · unfold owe at hy
          have hn0 : 0 ≤ total r.1 := by
            have h0 := (hG.pos 0 (by omega)).1; have h1 := (hG.pos 1 (by omega)).1; have h2 := (hG.pos 2 (by omega)).1; have h3 := (hG.pos 3 (by omega)).1
            have hl := hG.len
            revert h0 h1 h2 h3
            match r.1, hl with
            | [a, b, cc, d], _ => intro h0 h1 h2 h3; simp [List.getD_eq_getElem?_getD] at h0 h1 h2 h3; simp [total]; omega
          cases q : decide (r.2.1 > 0) with
          | true => rw [q] at hy; rcases List.mem_singleton.1 hy with rfl; exact ⟨hxs, x, List.mem_cons_self, by show r.2.1 ≤ x.2.1; omega⟩
          | false => rw [q] at hy; cases hy
        · obtain ⟨b1, z, b2, b3⟩ := a6 y hy
          exact ⟨b1, z, List.mem_cons_of_mem _ b2, b3⟩
      · have := a7 k hk
        rw [row_set hg.len hn4] at this
        rw [L_cons]
        have hL : L k (owe r x.1 ++ o1) = (if x.1 = (k : Int) then r.2.1 else 0) + L k o1 := by
          unfold owe
          by_cases q : r.2.1 > 0
          · rw [dec_t q]; exact L_cons _ _ _
          · rw [dec_f q]
            have e0 : r.2.1 = 0 := by omega
            simp only [cond_false, List.nil_append]
            rw [e0]; split <;> omega
        rw [hL]
        by_cases e : n = k
        · subst e
          rw [if_pos rfl] at this
          rw [if_pos hn, if_pos hn]
          have := hz n hk (by omega)
          omega
        · rw [if_neg e] at this
          rw [if_neg (by omega), if_neg (by omega)]
          omega
      · subst hp
        have : r.2.1 = 0 := by
          simp only [beq_self_eq_true, Bool.and_true, decide_eq_false_iff_not] at hb
          omega
        unfold owe
        rw [this, a8 rfl]; rfl

/-! ### Takes out of a grid -/
def elemAt (id : Int) (g : Grid) (n : Nat) : Tk := (id, (((n % 4 : Nat) : Int), (((n / 4 : Nat) : Int), (cellG g (n % 4) (n / 4), ()))))
def takeAt (id : Int) (g : Grid) (n : Nat) : List Tk := bif decide (cellG g (n % 4) (n / 4) > 0) then [elemAt id g n] else []
def takesFrom (id : Int) (g : Grid) : Nat → Nat → List Tk
  | _, 0 => [] | i, m + 1 => takeAt id g i ++ takesFrom id g (i + 1) m

theorem key_elem (id : Int) (g : Grid) (n : Nat) : key (elemAt id g n) = (n : Int) := by
  show 4 * ((n / 4 : Nat) : Int) + ((n % 4 : Nat) : Int) = _; omega

theorem takesFrom_ok {c : Cg} {free g : Grid} (hg : GridOk c free g) (hb : ∀ k w : Nat, k < 4 → w < 4 → cellG g k w < 9223372036854775808) (id : Int) : ∀ (m i : Nat), i + m ≤ 16 → ∀ lo : Int, lo < (i : Int) → okFrom id lo (takesFrom id g i m)
  | 0, i, _, lo, _ => trivial
  | m + 1, i, h, lo, hlo => by
    unfold takesFrom takeAt
    by_cases q : cellG g (i % 4) (i / 4) > 0
    · rw [dec_t q]
      refine ⟨⟨rfl, ?_, ?_, ?_⟩, by rw [key_elem]; exact hlo, takesFrom_ok hg hb id m (i + 1) (by omega) _ (by rw [key_elem]; omega)⟩
      · show 0 ≤ ((i % 4 : Nat) : Int) ∧ ((i % 4 : Nat) : Int) < 4; omega
      · show 0 ≤ ((i / 4 : Nat) : Int) ∧ ((i / 4 : Nat) : Int) < 4; omega
      · show 1 ≤ cellG g (i % 4) (i / 4) ∧ _; exact ⟨by omega, hb _ _ (by omega) (by omega)⟩
    · rw [dec_f q]
      exact takesFrom_ok hg hb id m (i + 1) (by omega) lo (by omega)

theorem takesFrom_mem {id : Int} {g : Grid} : ∀ (m i : Nat) (x : Tk), x ∈ takesFrom id g i m → ∃ n, i ≤ n ∧ n < i + m ∧ x = elemAt id g n ∧ cellG g (n % 4) (n / 4) > 0
  | 0, i, x, hx => by cases hx
  | m + 1, i, x, hx => by
    unfold takesFrom at hx
    rcases List.mem_append.1 hx with hx | hx
    · unfold takeAt at hx
      by_cases q : cellG g (i % 4) (i / 4) > 0
      · rw [dec_t q] at hx; exact ⟨i, by omega, by omega, List.mem_singleton.1 hx, q⟩
      · rw [dec_f q] at hx; cases hx
    · obtain ⟨n, h1, h2, h3⟩ := takesFrom_mem m (i + 1) x hx
      exact ⟨n, by omega, by omega, h3⟩

def sumAt (g : Grid) (k : Nat) : Nat → Nat → Int
  | _, 0 => 0 | i, m + 1 => (if i % 4 = k then cellG g (i % 4) (i / 4) else 0) + sumAt g k (i + 1) m
theorem takesFrom_T {c : Cg} {free g : Grid} (hg : GridOk c free g) (id : Int) (k : Nat) : ∀ (m i : Nat), i + m ≤ 16 → T k (takesFrom id g i m) = sumAt g k i m
  | 0, i, _ => rfl
  | m + 1, i, h => by
    unfold takesFrom takeAt sumAt
    rw [T_append, takesFrom_T hg id k m (i + 1) (by omega)]
    have hp := (hg.pos (i % 4) (i / 4) (by omega) (by omega)).1
    congr 1
    by_cases q : cellG g (i % 4) (i / 4) > 0
    · rw [dec_t q]
      show T k [elemAt id g i] = _
      rw [T_cons, T_nil]
      show (if ((i % 4 : Nat) : Int) = (k : Int) then cellG g (i % 4) (i / 4) else 0) + 0 = _
      by_cases e : i % 4 = k
      · rw [if_pos (by omega), if_pos e]; omega
      · rw [if_neg (by omega), if_neg e]; omega
    · rw [dec_f q]
      show (0 : Int) = _
      split <;> omega

theorem sumAt_row (g : Grid) (k : Nat) (hk : k < 4) (hl : (rowG g k).length = 4) : sumAt g k 0 16 = total (rowG g k) := by
  have e : total (rowG g k) = cellG g k 0 + (cellG g k 1 + (cellG g k 2 + (cellG g k 3 + 0))) := by
    unfold cellG
    match rowG g k, hl with
    | [a, b, cc, d], _ => rfl
  rw [e]
  match k, hk with
  | 0, _ => simp [sumAt]
  | 1, _ => simp [sumAt]
  | 2, _ => simp [sumAt]
  | 3, _ => simp [sumAt]

theorem takesFrom_add (id : Int) (g : Grid) (m : Nat) : ∀ (k i : Nat), takesFrom id g i (k + m) = takesFrom id g i k ++ takesFrom id g (i + k) m
  | 0, i => by simp [takesFrom]
  | k + 1, i => by
    rw [show k + 1 + m = (k + m) + 1 by omega]
    simp only [takesFrom]
    rw [takesFrom_add id g m k (i + 1), List.append_assoc, show i + 1 + k = i + (k + 1) by omega]
theorem takes_parts (id : Int) (g : Grid) : takesFrom id g 0 16 = takesFrom id g 0 4 ++ (takesFrom id g 4 4 ++ (takesFrom id g 8 4 ++ takesFrom id g 12 4)) := by
  rw [show (16 : Nat) = 4 + 12 from rfl, takesFrom_add, show (12 : Nat) = 4 + 8 from rfl, takesFrom_add, show (8 : Nat) = 4 + 4 from rfl, takesFrom_add]
theorem takeAt_len (id : Int) (g : Grid) (n : Nat) : (takeAt id g n).length ≤ 1 := by unfold takeAt; cases decide (cellG g (n % 4) (n / 4) > 0) <;> simp
theorem takes_len {c : Cg} (hc : Prio c) {free g : Grid} (hg : GridOk c free g) (id : Int) : (takesFrom id g 0 16).length ≤ 12 := by
  have hsk : c.1 ≤ 3 := by rcases hc.skus with e | e | e <;> omega
  have z : ∀ n : Nat, n < 16 → n % 4 = 3 → (takeAt id g n).length = 0 := fun n hn h3 => by
    unfold takeAt
    rw [dec_f (by rw [hg.skus (n % 4) (n / 4) (by omega) (by omega) (by omega)]; omega)]; rfl
  have b := takeAt_len id g
  have four : ∀ i : Nat, i < 16 → i % 4 = 0 → (takesFrom id g i 4).length ≤ 3 := fun i hi h0 => by
    have h3 := z (i + 1 + 1 + 1) (by omega) (by omega)
    have b0 := b i; have b1 := b (i + 1); have b2 := b (i + 1 + 1)
    show (takeAt id g i ++ (takeAt id g (i + 1) ++ (takeAt id g (i + 1 + 1) ++ (takeAt id g (i + 1 + 1 + 1) ++ [])))).length ≤ 3
    simp only [List.length_append, List.length_nil]
    omega
  have e : takesFrom id g 0 16 = takesFrom id g 0 4 ++ (takesFrom id g 4 4 ++ (takesFrom id g 8 4 ++ takesFrom id g 12 4)) := takes_parts id g
  rw [e]
  simp only [List.length_append]
  have f0 := four 0 (by omega) rfl; have f1 := four 4 (by omega) rfl; have f2 := four 8 (by omega) rfl; have f3 := four 12 (by omega) rfl
  omega
end Go.Proofs.Pure
