/- The greatest sum of the values of compatible patterns, found in two ways. -/
import Derived.Test.YtohlmcebphcokaaEngG
set_option linter.unusedVariables false
set_option linter.unusedSimpArgs false
set_option linter.unusedSectionVars false
namespace Go.Eng
open Go
def plusI (a b : Int) : Int := if a = 1000000000 ∨ b = 1000000000 then 1000000000 else min (a + b) 999999999
theorem plusI_1 {a b : Int} (h : a = 1000000000 ∨ b = 1000000000) : 1000000000 = plusI a b := by unfold plusI; rw [if_pos h]
theorem plusI_0 {a b : Int} (h : ¬ (a = 1000000000 ∨ b = 1000000000)) : min (a + b) 999999999 = plusI a b := by unfold plusI; rw [if_neg h]
theorem plusI_in {a b : Int} (ha : 0 ≤ a ∧ a ≤ 1000000000) (hb : 0 ≤ b ∧ b ≤ 1000000000) : 0 ≤ plusI a b ∧ plusI a b ≤ 1000000000 := by
  unfold plusI; split <;> omega
theorem plusI_mono {a b c : Int} (ha : 0 ≤ a ∧ a ≤ 1000000000) (hb : 0 ≤ b ∧ b ≤ 1000000000) (hc : 0 ≤ c ∧ c ≤ 1000000000) (h : b ≤ c) : plusI a b ≤ plusI a c := by
  unfold plusI; split <;> split <;> omega
abbrev ValsOk (V : List Int) : Prop := ∀ i : Nat, i < V.length → 0 ≤ nth V i ∧ nth V i ≤ 1000000000 ∧ (nth V i < 1000000000 → nth V i ≤ 200000)
def bestV (V : List Int) (C : Nat → Nat → Bool) : Nat → Nat → List Nat → Int
  | 0, _, _ => 0
  | n + 1, i, ch => if ch.any (fun k => !C i k) = true then bestV V C n (i + 1) ch else max (bestV V C n (i + 1) ch) (plusI (nth V i) (bestV V C n (i + 1) (ch ++ [i])))
/-- The sum of the values of some of the places from i on. -/
def sumR (V : List Int) (p : Nat → Bool) : Nat → Nat → Int
  | _, 0 => 0
  | i, n + 1 => if p i = true then plusI (nth V i) (sumR V p (i + 1) n) else sumR V p (i + 1) n
theorem sumR_congr {V : List Int} {p q : Nat → Bool} : ∀ {n i : Nat}, (∀ x, i ≤ x → x < i + n → p x = q x) → sumR V p i n = sumR V q i n
  | 0, _, _ => rfl
  | n + 1, i, h => by
    simp only [sumR]
    rw [h i (by omega) (by omega), sumR_congr (n := n) (i := i + 1) (fun x h1 h2 => h x (by omega) (by omega))]
def putB (p : Nat → Bool) (i : Nat) (b : Bool) : Nat → Bool := fun x => if x = i then b else p x
section
variable {V : List Int} (hV : ValsOk V) {C : Nat → Nat → Bool}
include hV
theorem sumR_in {p : Nat → Bool} : ∀ {n i : Nat}, i + n ≤ V.length → 0 ≤ sumR V p i n ∧ sumR V p i n ≤ 1000000000
  | 0, _, _ => by simp [sumR]
  | n + 1, i, h => by
    have ih := sumR_in (p := p) (n := n) (i := i + 1) (by omega)
    have hi := hV i (by omega)
    simp only [sumR]
    split
    · exact plusI_in ⟨hi.1, hi.2.1⟩ ih
    · exact ih
theorem bestV_in : ∀ {n i : Nat} {ch : List Nat}, i + n ≤ V.length → 0 ≤ bestV V C n i ch ∧ bestV V C n i ch ≤ 1000000000
  | 0, _, _, _ => by simp [bestV]
  | n + 1, i, ch, h => by
    have h1 := bestV_in (n := n) (i := i + 1) (ch := ch) (by omega)
    have h2 := bestV_in (n := n) (i := i + 1) (ch := ch ++ [i]) (by omega)
    have hi := hV i (by omega)
    simp only [bestV]
    split
    · exact h1
    · have := plusI_in ⟨hi.1, hi.2.1⟩ h2
      omega
abbrev FitsR (C : Nat → Nat → Bool) (p : Nat → Bool) (i n : Nat) (ch : List Nat) : Prop := (∀ x, i ≤ x → x < i + n → p x = true → ∀ k, k ∈ ch → C x k = true) ∧ ∀ x, i ≤ x → x < i + n → p x = true → ∀ y, i ≤ y → y < x → p y = true → C x y = true
theorem bestV_ge {p : Nat → Bool} : ∀ {n i : Nat} {ch : List Nat}, i + n ≤ V.length → FitsR C p i n ch → sumR V p i n ≤ bestV V C n i ch
  | 0, _, _, _, _ => by simp [sumR, bestV]
  | n + 1, i, ch, h, hf => by
    have hi := hV i (by omega)
    have h1 := bestV_in hV (C := C) (n := n) (i := i + 1) (ch := ch) (by omega)
    have ih1 := bestV_ge (p := p) (n := n) (i := i + 1) (ch := ch) (by omega) ⟨fun x a b c => hf.1 x (by omega) (by omega) c, fun x a b c y d e f => hf.2 x (by omega) (by omega) c y (by omega) e f⟩
    simp only [sumR, bestV]
    by_cases hp : p i = true
    · rw [if_pos hp]
      have hany : ¬ ch.any (fun k => !C i k) = true := by
        rw [List.any_eq_true]
        rintro ⟨k, hk, hc⟩
        rw [hf.1 i (by omega) (by omega) hp k hk] at hc
        cases hc
      rw [if_neg hany]
      have ih2 := bestV_ge (p := p) (n := n) (i := i + 1) (ch := ch ++ [i]) (by omega) ⟨fun x a b c k hk => by
        rcases List.mem_append.1 hk with hk | hk
        · exact hf.1 x (by omega) (by omega) c k hk
        · have : k = i := by simpa using hk
          subst this
          exact hf.2 x (by omega) (by omega) c k (by omega) (by omega) hp, fun x a b c y d e f => hf.2 x (by omega) (by omega) c y (by omega) e f⟩
      have := plusI_mono ⟨hi.1, hi.2.1⟩ (sumR_in hV (p := p) (n := n) (i := i + 1) (by omega)) (bestV_in hV (C := C) (n := n) (i := i + 1) (ch := ch ++ [i]) (by omega)) ih2
      omega
    · rw [if_neg hp]
      split
      · exact ih1
      · omega
omit hV in
theorem putB_same {p : Nat → Bool} {i : Nat} {b : Bool} : putB p i b i = b := by unfold putB; rw [if_pos rfl]
omit hV in
theorem putB_ne {p : Nat → Bool} {i x : Nat} {b : Bool} (h : x ≠ i) : putB p i b x = p x := by unfold putB; rw [if_neg h]
theorem bestV_ex : ∀ {n i : Nat} {ch : List Nat}, i + n ≤ V.length → ∃ p, FitsR C p i n ch ∧ bestV V C n i ch = sumR V p i n
  | 0, i, _, _ => ⟨fun _ => false, ⟨fun x a b => by omega, fun x a b => by omega⟩, rfl⟩
  | n + 1, i, ch, h => by
    obtain ⟨p1, f1, e1⟩ := bestV_ex (n := n) (i := i + 1) (ch := ch) (by omega)
    obtain ⟨p2, f2, e2⟩ := bestV_ex (n := n) (i := i + 1) (ch := ch ++ [i]) (by omega)
    have skip : ∃ p, FitsR C p i (n + 1) ch ∧ bestV V C n (i + 1) ch = sumR V p i (n + 1) := by
      refine ⟨putB p1 i false, ⟨fun x a b c => ?_, fun x a b c y d e f => ?_⟩, ?_⟩
      · by_cases hx : x = i
        · subst hx; rw [putB_same] at c; cases c
        · rw [putB_ne hx] at c; exact f1.1 x (by omega) (by omega) c
      · by_cases hx : x = i
        · subst hx; rw [putB_same] at c; cases c
        · rw [putB_ne hx] at c
          by_cases hy : y = i
          · subst hy; rw [putB_same] at f; cases f
          · rw [putB_ne hy] at f; exact f1.2 x (by omega) (by omega) c y (by omega) e f
      · simp only [sumR]
        rw [if_neg (by rw [putB_same]; simp), e1]
        exact sumR_congr fun x a b => (putB_ne (by omega)).symm
    simp only [bestV]
    split
    · exact skip
    · rename_i hany
      rw [Bool.not_eq_true, List.any_eq_false] at hany
      by_cases hle : plusI (nth V i) (bestV V C n (i + 1) (ch ++ [i])) ≤ bestV V C n (i + 1) ch
      · rw [show max (bestV V C n (i + 1) ch) (plusI (nth V i) (bestV V C n (i + 1) (ch ++ [i]))) = bestV V C n (i + 1) ch by omega]
        exact skip
      · rw [show max (bestV V C n (i + 1) ch) (plusI (nth V i) (bestV V C n (i + 1) (ch ++ [i]))) = plusI (nth V i) (bestV V C n (i + 1) (ch ++ [i])) by omega]
        refine ⟨putB p2 i true, ⟨fun x a b c k hk => ?_, fun x a b c y d e f => ?_⟩, ?_⟩
        · by_cases hx : x = i
          · subst hx
            have := hany k hk
            simpa using this
          · rw [putB_ne hx] at c; exact f2.1 x (by omega) (by omega) c k (by simp [hk])
        · by_cases hx : x = i
          · omega
          · rw [putB_ne hx] at c
            by_cases hy : y = i
            · subst hy; exact f2.1 x (by omega) (by omega) c y (by simp)
            · rw [putB_ne hy] at f; exact f2.2 x (by omega) (by omega) c y (by omega) e f
        · simp only [sumR]
          rw [if_pos putB_same, e2]
          congr 1
          exact sumR_congr fun x a b => (putB_ne (by omega)).symm
end
/-! ### The same sum from the other end -/
def sumL (V : List Int) (p : Nat → Bool) : Nat → Int
  | 0 => 0
  | k + 1 => if p k = true then (if nth V k = 1000000000 ∨ sumL V p k = 1000000000 then 1000000000 else sumL V p k + nth V k) else sumL V p k
/-- Plainly added. -/
def seg (V : List Int) (p : Nat → Bool) (i : Nat) : Nat → Int
  | 0 => 0
  | n + 1 => seg V p i n + (if p (i + n) = true then nth V ((i + n : Nat) : Int) else 0)
abbrev InfR (V : List Int) (p : Nat → Bool) (i n : Nat) : Prop := ∃ x, i ≤ x ∧ x < i + n ∧ p x = true ∧ nth V x = 1000000000
theorem seg_s {V : List Int} {p : Nat → Bool} {n : Nat} : seg V p 0 (n + 1) = seg V p 0 n + (if p n = true then nth V n else 0) := by simp [seg]
theorem seg_front {V : List Int} {p : Nat → Bool} {i : Nat} : ∀ {n : Nat}, seg V p i (n + 1) = (if p i = true then nth V i else 0) + seg V p (i + 1) n
  | 0 => by simp [seg]
  | n + 1 => by
    have ih := seg_front (V := V) (p := p) (i := i) (n := n)
    have e : i + (n + 1) = i + 1 + n := by omega
    rw [seg, ih, seg, e]
    omega
section
variable {V : List Int} (hV : ValsOk V)
include hV
theorem seg_in {p : Nat → Bool} {i : Nat} : ∀ {n : Nat}, i + n ≤ V.length → ¬ InfR V p i n → 0 ≤ seg V p i n ∧ seg V p i n ≤ 200000 * n
  | 0, _, _ => by simp [seg]
  | n + 1, h, hn => by
    have ih := seg_in (p := p) (i := i) (n := n) (by omega) (fun ⟨x, a, b, c⟩ => hn ⟨x, a, by omega, c⟩)
    have hx := hV (i + n) (by omega)
    simp only [seg]
    split
    · rename_i hp
      have : nth V ((i + n : Nat) : Int) ≠ 1000000000 := fun e => hn ⟨i + n, by omega, by omega, hp, e⟩
      omega
    · omega
theorem sumL_eq {p : Nat → Bool} : ∀ {n : Nat}, n ≤ V.length → n ≤ 6 → (InfR V p 0 n → sumL V p n = 1000000000) ∧ (¬ InfR V p 0 n → sumL V p n = seg V p 0 n)
  | 0, _, _ => ⟨fun ⟨x, a, b, c⟩ => by omega, fun _ => rfl⟩
  | n + 1, h, h6 => by
    obtain ⟨i1, i2⟩ := sumL_eq (p := p) (n := n) (by omega) (by omega)
    have hx := hV n (by omega)
    refine ⟨fun hi => ?_, fun hi => ?_⟩
    · obtain ⟨x, a, b, c, d⟩ := hi
      simp only [sumL]
      by_cases hxn : x = n
      · subst hxn; rw [if_pos c, if_pos (.inl d)]
      · have := i1 ⟨x, a, by omega, c, d⟩
        split
        · rw [if_pos (.inr this)]
        · exact this
    · have hn : ¬ InfR V p 0 n := fun ⟨x, a, b, c⟩ => hi ⟨x, a, by omega, c⟩
      have e := i2 hn
      have hs := seg_in hV (p := p) (i := 0) (n := n) (by omega) hn
      simp only [sumL, seg, Nat.zero_add]
      split
      · rename_i hp
        have h1 : nth V (n : Int) ≠ 1000000000 := fun e => hi ⟨n, by omega, by omega, hp, e⟩
        rw [if_neg (by omega), e]
      · rw [e]; omega
theorem sumR_eq {p : Nat → Bool} : ∀ {n i : Nat}, i + n ≤ V.length → n ≤ 6 → (InfR V p i n → sumR V p i n = 1000000000) ∧ (¬ InfR V p i n → sumR V p i n = seg V p i n)
  | 0, i, _, _ => ⟨fun ⟨x, a, b, c⟩ => by omega, fun _ => rfl⟩
  | n + 1, i, h, h6 => by
    obtain ⟨i1, i2⟩ := sumR_eq (p := p) (n := n) (i := i + 1) (by omega) (by omega)
    have hx := hV i (by omega)
    refine ⟨fun hi => ?_, fun hi => ?_⟩
    · obtain ⟨x, a, b, c, d⟩ := hi
      simp only [sumR]
      by_cases hxn : x = i
      · subst hxn; rw [if_pos c]; exact (plusI_1 (.inl d)).symm
      · have := i1 ⟨x, by omega, by omega, c, d⟩
        split
        · exact (plusI_1 (.inr this)).symm
        · exact this
    · have hn : ¬ InfR V p (i + 1) n := fun ⟨x, a, b, c⟩ => hi ⟨x, by omega, by omega, c⟩
      have e := i2 hn
      have hs := seg_in hV (p := p) (i := i + 1) (n := n) (by omega) hn
      rw [seg_front]
      simp only [sumR]
      split
      · rename_i hp
        have h1 : nth V (i : Int) ≠ 1000000000 := fun e => hi ⟨i, by omega, by omega, hp, e⟩
        rw [e, ← plusI_0 (by omega)]
        omega
      · rw [e]; omega
theorem sum_both {p : Nat → Bool} {n : Nat} (h : n ≤ V.length) (h6 : n ≤ 6) : sumR V p 0 n = sumL V p n := by
  have h1 := sumR_eq hV (p := p) (i := 0) (n := n) (by omega) h6
  have h2 := sumL_eq hV (p := p) h h6
  by_cases hi : InfR V p 0 n
  · rw [h1.1 hi, h2.1 hi]
  · rw [h1.2 hi, h2.2 hi]
end
/-! ### Words as sets -/
def bitI (w : Nat) (i : Nat) : Bool := decide (w / 2 ^ i % 2 = 1)
def wordOf (p : Nat → Bool) : Nat → Nat
  | 0 => 0
  | k + 1 => wordOf p k + (if p k = true then 2 ^ k else 0)
theorem wordOf_lt {p : Nat → Bool} : ∀ {k : Nat}, wordOf p k < 2 ^ k
  | 0 => by simp [wordOf]
  | k + 1 => by
    have := wordOf_lt (p := p) (k := k)
    simp only [wordOf, Nat.pow_succ]
    split <;> omega
theorem wordOf_bit {p : Nat → Bool} : ∀ {k i : Nat}, i < k → bitI (wordOf p k) i = p i
  | 0, i, h => by omega
  | k + 1, i, h => by
    have hlt := wordOf_lt (p := p) (k := k)
    simp only [wordOf]
    by_cases hik : i = k
    · subst hik
      unfold bitI
      split
      · rename_i hp
        rw [Nat.add_div_right _ (Nat.two_pow_pos i), Nat.div_eq_of_lt hlt, hp]; rfl
      · rename_i hp
        rw [Nat.add_zero, Nat.div_eq_of_lt hlt]
        simp at hp
        rw [hp]; rfl
    · have ih := wordOf_bit (p := p) (k := k) (i := i) (by omega)
      rw [← ih]
      unfold bitI
      split
      · have e : 2 ^ k = 2 ^ i * (2 * 2 ^ (k - i - 1)) := by
          rw [← Nat.pow_succ', ← Nat.pow_add]
          congr 1; omega
        rw [e, Nat.add_mul_div_left _ _ (Nat.two_pow_pos i), Nat.add_mul_mod_self_left]
      · rw [Nat.add_zero]
abbrev FitsW (C : Nat → Nat → Bool) (n w : Nat) : Prop := ∀ i : Nat, i < n → bitI w i = true → ∀ k : Nat, k < i → bitI w k = true → C i k = true
instance {C : Nat → Nat → Bool} {n w : Nat} : Decidable (FitsW C n w) := inferInstance
def bestW (V : List Int) (C : Nat → Nat → Bool) (n : Nat) : Nat → Int
  | 0 => 0
  | w + 1 => if FitsW C n w then max (bestW V C n w) (sumL V (bitI w) n) else bestW V C n w
theorem bestW_ge {V : List Int} {C : Nat → Nat → Bool} {n x : Nat} (hf : FitsW C n x) : ∀ {w : Nat}, x < w → sumL V (bitI x) n ≤ bestW V C n w
  | 0, h => by omega
  | w + 1, h => by
    simp only [bestW]
    by_cases hx : x = w
    · subst hx; rw [if_pos hf]; omega
    · have := bestW_ge hf (V := V) (w := w) (by omega)
      split <;> omega
theorem bestW_le {V : List Int} {C : Nat → Nat → Bool} {n : Nat} {b : Int} (h0 : 0 ≤ b) (h : ∀ x : Nat, FitsW C n x → sumL V (bitI x) n ≤ b) : ∀ {w : Nat}, bestW V C n w ≤ b
  | 0 => h0
  | w + 1 => by
    have := bestW_le h0 h (w := w)
    simp only [bestW]
    split
    · rename_i hf; have := h w hf; omega
    · exact this
theorem best_both {V : List Int} (hV : ValsOk V) {C : Nat → Nat → Bool} {n : Nat} (hn : n = V.length) (h6 : n ≤ 6) : bestV V C n 0 [] = bestW V C n (2 ^ n) := by
  have hle : bestV V C n 0 [] ≤ bestW V C n (2 ^ n) := by
    obtain ⟨p, hf, he⟩ := bestV_ex hV (C := C) (n := n) (i := 0) (ch := []) (by omega)
    rw [he]
    have hb : ∀ x, 0 ≤ x → x < 0 + n → p x = bitI (wordOf p n) x := fun x _ h => (wordOf_bit (by omega)).symm
    rw [sumR_congr hb, sum_both hV (by omega) h6]
    exact bestW_ge (fun i hi h1 k hk h2 => by
      rw [← hb i (by omega) (by omega)] at h1
      rw [← hb k (by omega) (by omega)] at h2
      exact hf.2 i (by omega) (by omega) h1 k (by omega) hk h2) wordOf_lt
  have hge : bestW V C n (2 ^ n) ≤ bestV V C n 0 [] := bestW_le (bestV_in hV (by omega)).1 fun x hf => by
    rw [← sum_both hV (by omega) h6]
    exact bestV_ge hV (by omega) ⟨fun x _ _ _ k hk => by simp at hk, fun i _ hi h1 k _ hk h2 => hf i (by omega) h1 k hk h2⟩
  omega

/-! ### Sums are admissible -/
theorem sel_same {sizes vars s : List Int} {l : List Asg} (hp : PatP sizes vars) (hl : AsgsP sizes l) (hs : s.length = sizes.length) (h : chg l vars = false) : sel (nextS s l) vars = sel s vars := by
  refine ext_get (by rw [sel_len, sel_len]) fun i hi => ?_
  rw [sel_len] at hi
  rw [nth_sel hi, nth_sel hi]
  refine nextS_not hl hs (hp i hi).1 (hp i hi).2.1 fun a ha e => ?_
  unfold chg at h
  rw [List.any_eq_false] at h
  exact h a ha (by simp only [decide_eq_true_eq]; rw [e]; exact nth_mem (by omega) (by omega))
abbrev PatsOk (m : Multi) (pats : List (List Int)) : Prop := ∀ i : Nat, i < pats.length → (nth pats i).length ≠ 0 ∧ PatP m.sizes (nth pats i) ∧ prodTo m.sizes (nth pats i) (nth pats i).length ≤ 2000
noncomputable def valsL (m : Multi) (pats : List (List Int)) (s : List Int) : List Int := pats.map fun vars => pval m vars s
theorem valsL_len {m : Multi} {pats : List (List Int)} {s : List Int} : (valsL m pats s).length = pats.length := by simp [valsL]
theorem valsL_at {m : Multi} {pats : List (List Int)} {s : List Int} {i : Nat} (hi : i < pats.length) : nth (valsL m pats s) i = pval m (nth pats i) s := by
  rw [nth_eq (by rw [valsL_len]; exact hi)]
  simp only [valsL, List.getElem_map]
  rw [nth_eq hi]
def cmpF (m : Multi) (pats : List (List Int)) (i k : Nat) : Bool := compat m (nth pats i) (nth pats k)
section
variable {m : Multi} {pats : List (List Int)} (hv : Valid m) (hp : PatsOk m pats)
include hv hp
theorem valsL_ok {s : List Int} (hs : StateP m.sizes s) : ValsOk (valsL m pats s) := fun i hi => by
  rw [valsL_len] at hi
  rw [valsL_at hi]
  obtain ⟨a, b, c⟩ := hp i hi
  exact pval_in hv hs a b c
theorem seg_step {p : Nat → Bool} {s : List Int} (hs : StateP m.sizes s) {j : Nat} (hj : j < m.ops.length) (hpre : holds s (nth m.ops j).pre = true) : ∀ {n : Nat}, n ≤ pats.length → (∀ i : Nat, i < n → p i = true → ∀ k : Nat, k < i → p k = true → cmpF m pats i k = true) →
    seg (valsL m pats s) p 0 n ≤ seg (valsL m pats (nextS s (nth m.ops j).post)) p 0 n + (nth m.ops j).cost ∧ ((∀ i : Nat, i < n → p i = true → chg (nth m.ops j).post (nth pats i) = false) → seg (valsL m pats s) p 0 n = seg (valsL m pats (nextS s (nth m.ops j).post)) p 0 n)
  | 0, _, _ => ⟨by have := (hv.op j hj).2.2.1; simp only [seg]; omega, fun _ => rfl⟩
  | n + 1, hn, hf => by
    obtain ⟨i1, i2⟩ := seg_step hs hj hpre (n := n) (by omega) (fun i hi => hf i (by omega))
    have ho := hv.op j hj
    have hpn := hp n (by omega)
    rw [seg_s, seg_s, valsL_at (by omega), valsL_at (by omega)]
    have hsame : chg (nth m.ops j).post (nth pats n) = false → pval m (nth pats n) (nextS s (nth m.ops j).post) = pval m (nth pats n) s := fun h => by
      unfold pval; rw [sel_same hpn.2.1 ho.2.1 hs.1 h]
    by_cases hpp : p n = true
    · rw [if_pos hpp, if_pos hpp]
      cases hc : chg (nth m.ops j).post (nth pats n) with
      | false =>
        rw [hsame hc]
        exact ⟨by omega, fun h => by rw [i2 (fun i hi => h i (by omega))]⟩
      | true =>
        have hnone : ∀ i : Nat, i < n → p i = true → chg (nth m.ops j).post (nth pats i) = false := fun i hi hpi => by
          have h1 := hf n (by omega) hpp i hi hpi
          unfold cmpF compat at h1
          simp only [Bool.not_eq_true'] at h1
          rw [List.any_eq_false] at h1
          have h2 := h1 _ (nth_mem (l := m.ops) (n := (j : Int)) (by omega) (by omega))
          rw [hc] at h2
          simpa using h2
        have htri : pval m (nth pats n) s ≤ pval m (nth pats n) (nextS s (nth m.ops j).post) + (nth m.ops j).cost := proj_tri hv hpn.1 hpn.2.1 hs hj hpre
        have := i2 hnone
        refine ⟨by omega, fun h => ?_⟩
        have := h n (by omega) hpp
        rw [hc] at this; cases this
    · rw [if_neg hpp, if_neg hpp]
      exact ⟨by omega, fun h => by rw [i2 (fun i hi => h i (by omega))]⟩
theorem seg_goal {p : Nat → Bool} {s : List Int} (hs : StateP m.sizes s) (hh : holds s m.goal = true) : ∀ {n : Nat}, n ≤ pats.length → seg (valsL m pats s) p 0 n ≤ 0
  | 0, _ => by simp [seg]
  | n + 1, hn => by
    have ih := seg_goal (p := p) hs hh (n := n) (by omega)
    have hpn := hp n (by omega)
    have hz : pval m (nth pats n) s = 0 := costs_goal (valid_proj hv hpn.1 hpn.2.1) (sel_state hpn.2.1 hs) (holds_sel hh)
    rw [seg_s, valsL_at (by omega), hz]
    split <;> omega
theorem seg_le {p : Nat → Bool} {s : List Int} (hs : StateP m.sizes s) {n : Nat} (hn : n ≤ pats.length) (hf : ∀ i : Nat, i < n → p i = true → ∀ k : Nat, k < i → p k = true → cmpF m pats i k = true) : min 1000000000 (seg (valsL m pats s) p 0 n) ≤ nth (costs m) (rank m.sizes s) := by
  refine costs_ge hv (f := fun s => min 1000000000 (seg (valsL m pats s) p 0 n)) (fun s _ => by show min _ _ ≤ _; omega) (fun s hs hh => ?_) (fun s hs j hj hpre => ?_) hs
  · have := seg_goal hv hp (p := p) hs hh hn
    show min _ _ ≤ _; omega
  · have := (seg_step hv hp hs hj hpre hn hf).1
    have ho := (hv.op j hj).2.2.1
    show min _ _ ≤ min _ _ + _
    omega
theorem best_adm {s : List Int} (hs : StateP m.sizes s) (h6 : pats.length ≤ 6) : bestV (valsL m pats s) (cmpF m pats) pats.length 0 [] ≤ nth (costs m) (rank m.sizes s) := by
  have hV := valsL_ok hv hp hs
  obtain ⟨p, hf, he⟩ := bestV_ex hV (C := cmpF m pats) (n := pats.length) (i := 0) (ch := []) (by rw [valsL_len]; omega)
  rw [he]
  have h1 := sumR_eq hV (p := p) (i := 0) (n := pats.length) (by rw [valsL_len]; omega) h6
  by_cases hi : InfR (valsL m pats s) p 0 pats.length
  · rw [h1.1 hi]
    obtain ⟨x, _, hx, _, hd⟩ := hi
    have hx' : x < pats.length := by omega
    rw [valsL_at hx'] at hd
    have hpx := hp x hx'
    have h2 : pval m (nth pats x) s ≤ nth (costs m) (rank m.sizes s) := proj_le hv hpx.1 hpx.2.1 hs
    omega
  · rw [h1.2 hi]
    have h2 := seg_le hv hp (p := p) hs (n := pats.length) (Nat.le_refl _) (fun i hi hpi k hk hpk => hf.2 i (by omega) (by omega) hpi k (by omega) hk hpk)
    have h3 := seg_in hV (p := p) (i := 0) (n := pats.length) (by rw [valsL_len]; omega) hi
    omega
theorem best_each {s : List Int} (hs : StateP m.sizes s) {i : Nat} (hi : i < pats.length) : pval m (nth pats i) s ≤ bestV (valsL m pats s) (cmpF m pats) pats.length 0 [] := by
  have hV := valsL_ok hv hp hs
  have h1 := bestV_ge hV (C := cmpF m pats) (p := fun x => decide (x = i)) (n := pats.length) (i := 0) (ch := []) (by rw [valsL_len]; omega) ⟨fun x _ _ _ k hk => by simp at hk, fun x _ _ c y _ e f => by simp at c f; omega⟩
  have key : ∀ n k : Nat, k + n = pats.length → (k ≤ i → sumR (valsL m pats s) (fun x => decide (x = i)) k n = (if nth (valsL m pats s) i = 1000000000 then 1000000000 else min (nth (valsL m pats s) i) 999999999)) ∧ (i < k → sumR (valsL m pats s) (fun x => decide (x = i)) k n = 0) := by
    intro n
    induction n with
    | zero => intro k hk; exact ⟨fun h => by omega, fun _ => rfl⟩
    | succ n ih =>
      intro k hk
      obtain ⟨j1, j2⟩ := ih (k + 1) (by omega)
      simp only [sumR]
      refine ⟨fun h => ?_, fun h => ?_⟩
      · by_cases hki : k = i
        · subst hki
          rw [if_pos (by simp), j2 (by omega)]
          unfold plusI
          by_cases h9 : nth (valsL m pats s) (k : Int) = 1000000000
          · rw [if_pos (.inl h9), if_pos h9]
          · rw [if_neg (by omega), if_neg h9]; omega
        · rw [if_neg (by simpa using hki), j1 (by omega)]
      · rw [if_neg (by simp; omega), j2 (by omega)]
  rw [(key pats.length 0 (by omega)).1 (by omega)] at h1
  have h2 := hV i (by rw [valsL_len]; exact hi)
  rw [← valsL_at hi]
  split at h1 <;> omega
end
/-! ### The order does not matter -/
theorem nth_rev {α : Type} [Inhabited α] {l : List α} {i : Nat} (hi : i < l.length) : nth l.reverse (i : Int) = nth l ((l.length - 1 - i : Nat) : Int) := by
  rw [nth_eq (by simpa using hi), nth_eq (by omega)]
  simp
theorem seg_rev {V : List Int} {p : Nat → Bool} : ∀ {k : Nat}, k ≤ V.length → seg V.reverse (fun x => p (V.length - 1 - x)) 0 k = seg V p (V.length - k) k
  | 0, _ => rfl
  | k + 1, hk => by
    have ih := seg_rev (V := V) (p := p) (k := k) (by omega)
    have e1 : V.length - (k + 1) + 1 = V.length - k := by omega
    rw [seg_front (i := V.length - (k + 1)), e1, ← ih, seg_s, nth_rev (by omega)]
    have e2 : V.length - 1 - k = V.length - (k + 1) := by omega
    rw [e2]
    omega
theorem best_rev {V : List Int} (hV : ValsOk V) (h6 : V.length ≤ 6) {C C' : Nat → Nat → Bool} (hC : ∀ i k : Nat, i < V.length → k < V.length → C' i k = C (V.length - 1 - i) (V.length - 1 - k)) (hs : ∀ i k, C i k = C k i) :
    bestV V C V.length 0 [] ≤ bestV V.reverse C' V.length 0 [] := by
  have hV' : ValsOk V.reverse := fun i hi => by
    rw [List.length_reverse] at hi
    rw [nth_rev hi]
    exact hV _ (by omega)
  obtain ⟨p, hf, he⟩ := bestV_ex hV (C := C) (n := V.length) (i := 0) (ch := []) (by omega)
  have h1 := bestV_ge hV' (C := C') (p := fun x => p (V.length - 1 - x)) (n := V.length) (i := 0) (ch := []) (by simp) ⟨fun x _ _ _ k hk => by simp at hk, fun x _ hx c y _ hy f => by
    rw [hC x y (by omega) (by omega), hs]
    exact hf.2 _ (by omega) (by omega) f _ (by omega) (by omega) c⟩
  refine Int.le_trans (Int.le_of_eq ?_) h1
  rw [he]
  have a1 := sumR_eq hV (p := p) (i := 0) (n := V.length) (by omega) h6
  have a2 := sumR_eq hV' (p := fun x => p (V.length - 1 - x)) (i := 0) (n := V.length) (by simp) h6
  have hii : InfR V p 0 V.length ↔ InfR V.reverse (fun x => p (V.length - 1 - x)) 0 V.length := by
    constructor
    · rintro ⟨x, _, b, c, d⟩
      refine ⟨V.length - 1 - x, by omega, by omega, ?_, ?_⟩
      · have : V.length - 1 - (V.length - 1 - x) = x := by omega
        simp only [this]; exact c
      · rw [nth_rev (by omega)]
        have : V.length - 1 - (V.length - 1 - x) = x := by omega
        rw [this]; exact d
    · rintro ⟨x, _, b, c, d⟩
      refine ⟨V.length - 1 - x, by omega, by omega, c, ?_⟩
      rw [nth_rev (by omega)] at d
      exact d
  by_cases hi : InfR V p 0 V.length
  · rw [a1.1 hi, a2.1 (hii.1 hi)]
  · rw [a1.2 hi, a2.2 (fun h => hi (hii.2 h)), seg_rev (Nat.le_refl _), Nat.sub_self]
/-- One more pattern does not decrease the greatest sum. -/
theorem best_tail {v : Int} {V : List Int} (hV : ValsOk (v :: V)) {C C' : Nat → Nat → Bool} (hC : ∀ i k : Nat, C' i k = C (i + 1) (k + 1)) : bestV V C' V.length 0 [] ≤ bestV (v :: V) C (V.length + 1) 0 [] := by
  have hn : ∀ i : Nat, nth (v :: V) ((i + 1 : Nat) : Int) = nth V (i : Int) := fun i => by simp [nth]
  have hV' : ValsOk V := fun i hi => by
    have := hV (i + 1) (by simp; omega)
    rwa [hn] at this
  obtain ⟨p, hf, he⟩ := bestV_ex hV' (C := C') (n := V.length) (i := 0) (ch := []) (by omega)
  have hsh : ∀ n i : Nat, sumR (v :: V) (fun x => decide (x ≠ 0) && p (x - 1)) (i + 1) n = sumR V p i n := fun n => by
    induction n with
    | zero => intro i; rfl
    | succ n ih =>
      intro i
      simp only [sumR]
      rw [ih (i + 1), hn]
      simp
  have h1 := bestV_ge hV (C := C) (p := fun x => decide (x ≠ 0) && p (x - 1)) (n := V.length + 1) (i := 0) (ch := []) (by simp) ⟨fun x _ _ _ k hk => by simp at hk, fun x _ hx c y _ hy f => by
    simp only [Bool.and_eq_true, decide_eq_true_eq] at c f
    have := hf.2 (x - 1) (by omega) (by omega) c.2 (y - 1) (by omega) (by omega) f.2
    rw [hC] at this
    have e1 : x - 1 + 1 = x := by omega
    have e2 : y - 1 + 1 = y := by omega
    rwa [e1, e2] at this⟩
  rw [he]
  refine Int.le_trans (Int.le_of_eq ?_) h1
  have h2 : sumR (v :: V) (fun x => decide (x ≠ 0) && p (x - 1)) 0 (V.length + 1) = sumR (v :: V) (fun x => decide (x ≠ 0) && p (x - 1)) 1 V.length := by
    simp only [sumR]
    rw [if_neg (by simp)]
  rw [h2, hsh]
/-- Two patterns. -/
theorem best_two {x y : Int} (hx : 0 ≤ x ∧ x ≤ 1000000000 ∧ (x < 1000000000 → x ≤ 200000)) (hy : 0 ≤ y ∧ y ≤ 1000000000 ∧ (y < 1000000000 → y ≤ 200000)) {C : Nat → Nat → Bool} : bestV [x, y] C 2 0 [] = if C 1 0 = true then min 1000000000 (x + y) else max x y := by
  have e0 : nth [x, y] ((0 : Nat) : Int) = x := rfl
  have e1 : nth [x, y] ((1 : Nat) : Int) = y := rfl
  simp only [bestV, e0, e1, List.any_nil, List.nil_append, List.any_cons, Bool.or_false]
  unfold plusI
  cases hc : C 1 0 with
  | true => simp; split <;> omega
  | false => simp; split <;> omega

/-! ### Faults and answers of the package -/
def cmpT (m : Multi) (a b : List Int) : Int × Int := if projFault m a = (0, 0) then patFault m.sizes b (-9) else projFault m a
def cmpR (m : Multi) (a b : List Int) : Bool := decide (cmpT m a b = (0, 0)) && compat m a b
theorem cmpT_1 {m : Multi} {a b : List Int} (h : projFault m a = (0, 0)) : patFault m.sizes b (-9) = cmpT m a b := by unfold cmpT; rw [if_pos h]
theorem cmpT_2 {m : Multi} {a b : List Int} (h : projFault m a ≠ (0, 0)) : projFault m a = cmpT m a b := by unfold cmpT; rw [if_neg h]
theorem cmpT_code {m : Multi} {a b : List Int} (h : (cmpT m a b).1 = 0) : cmpT m a b = (0, 0) := by
  unfold cmpT at h ⊢
  split at h
  · rename_i h1; rw [if_pos h1]; exact (patFault_ok2 h).2.2
  · rename_i h1; exact absurd (projFault_code h) h1
theorem cmpT_ok {m : Multi} {a b : List Int} (h : cmpT m a b = (0, 0)) : Valid m ∧ (a.length ≠ 0 ∧ PatP m.sizes a) ∧ (b.length ≠ 0 ∧ PatP m.sizes b) := by
  unfold cmpT at h
  split at h
  · rename_i h1
    obtain ⟨h2, h3, _⟩ := patFault_ok2 (by rw [h])
    obtain ⟨h4, h5, h6, _⟩ := projFault_ok (m := m) (vars := a) (by rw [h1])
    exact ⟨h4, ⟨h5, h6⟩, h2, h3⟩
  · rename_i h1; exact absurd h h1
theorem cmpT_of {m : Multi} {a b : List Int} {i j : Int} (hv : Valid m) (ha : a.length ≠ 0 ∧ PatP m.sizes a) (hb : b.length ≠ 0 ∧ PatP m.sizes b) : cmpT m a b = (0, 0) := by
  have h1 : projFault m a = (0, 0) := by
    rw [← projFault_1 (validate_of hv)]
    unfold patFault; rw [if_pos (patCode_0 ha.1 ha.2).symm]
  rw [← cmpT_1 h1]
  unfold patFault; rw [if_pos (patCode_0 hb.1 hb.2).symm]
theorem cmpT_add {m : Multi} {a b : List Int} : addP (projFault m a) m.sizes b (-9) = cmpT m a b := by
  unfold addP cmpT patFault
  by_cases h : (projFault m a).1 = 0
  · rw [projFault_code h]
    by_cases h2 : patCode m.sizes b = 0 <;> simp [h2]
  · have : projFault m a ≠ (0, 0) := fun e => h (by rw [e])
    simp [h, this]
theorem cmpR_1 {m : Multi} {a b : List Int} (h : cmpT m a b ≠ (0, 0)) : cmpR m a b = false := by unfold cmpR; rw [decide_eq_false h]; rfl
theorem cmpR_0 {m : Multi} {a b : List Int} (h : cmpT m a b = (0, 0)) : cmpR m a b = compat m a b := by unfold cmpR; rw [decide_eq_true h]; rfl
/-- The fault of the patterns. -/
def patsF (m : Multi) (pats : List (List Int)) (s : List Int) : Nat → Int × Int
  | 0 => (0, 0)
  | k + 1 => if patsF m pats s k = (0, 0) then (if valF m (nth pats k) s = (0, 0) then (0, 0) else ((valF m (nth pats k) s).1, k)) else patsF m pats s k
def addF (m : Multi) (pats : List (List Int)) (s : List Int) : Int × Int := if stateFault m s ≠ (0, 0) then stateFault m s else if 6 < pats.length then (2, -9) else patsF m pats s pats.length
noncomputable def addR (m : Multi) (pats : List (List Int)) (s : List Int) : Int := if addF m pats s = (0, 0) then bestV (valsL m pats s) (cmpF m pats) pats.length 0 [] else 0
theorem valF_ne {m : Multi} {vars s : List Int} (h : valF m vars s ≠ (0, 0)) : (valF m vars s).1 ≠ 0 := fun e => h (valF_code e)
theorem patsF_stop {m : Multi} {pats : List (List Int)} {s : List Int} {k : Nat} (h : patsF m pats s k ≠ (0, 0)) : ∀ n, patsF m pats s (k + n) = patsF m pats s k
  | 0 => rfl
  | n + 1 => by
    have ih := patsF_stop h n
    show patsF m pats s (k + n + 1) = _
    simp only [patsF]
    rw [ih, if_neg h]
theorem patsF_bad {m : Multi} {pats : List (List Int)} {s : List Int} {k : Nat} (hk : k < pats.length) (h0 : patsF m pats s k = (0, 0)) (h : valF m (nth pats k) s ≠ (0, 0)) : ((valF m (nth pats k) s).1, (k : Int)) = patsF m pats s pats.length := by
  have h1 : patsF m pats s (k + 1) = ((valF m (nth pats k) s).1, (k : Int)) := by simp only [patsF]; rw [if_pos h0, if_neg h]
  have h2 : patsF m pats s (k + 1) ≠ (0, 0) := by rw [h1]; intro e; exact valF_ne h (congrArg Prod.fst e)
  have := patsF_stop h2 (pats.length - (k + 1))
  rw [show k + 1 + (pats.length - (k + 1)) = pats.length by omega] at this
  rw [this, h1]
theorem patsF_good {m : Multi} {pats : List (List Int)} {s : List Int} {k : Nat} (h0 : patsF m pats s k = (0, 0)) (h : valF m (nth pats k) s = (0, 0)) : patsF m pats s (k + 1) = (0, 0) := by
  simp only [patsF]; rw [if_pos h0, if_pos h]
theorem patsF_all {m : Multi} {pats : List (List Int)} {s : List Int} : ∀ {n : Nat}, patsF m pats s n = (0, 0) → ∀ k, k < n → valF m (nth pats k) s = (0, 0)
  | 0, _, k, hk => by omega
  | n + 1, h, k, hk => by
    simp only [patsF] at h
    split at h
    · rename_i h1
      by_cases hkn : k = n
      · subst hkn
        split at h
        · assumption
        · rename_i h2
          exact absurd (congrArg Prod.fst h) (valF_ne h2)
      · exact patsF_all h1 k (by omega)
    · rename_i h1; exact absurd h h1
theorem patsF_of {m : Multi} {pats : List (List Int)} {s : List Int} : ∀ {n : Nat}, (∀ k, k < n → valF m (nth pats k) s = (0, 0)) → patsF m pats s n = (0, 0)
  | 0, _ => rfl
  | n + 1, h => patsF_good (patsF_of fun k hk => h k (by omega)) (h n (by omega))
theorem addF_1 {m : Multi} {pats : List (List Int)} {s : List Int} (h : stateFault m s ≠ (0, 0)) : stateFault m s = addF m pats s := by unfold addF; rw [if_pos h]
theorem addF_2 {m : Multi} {pats : List (List Int)} {s : List Int} (h : stateFault m s = (0, 0)) (h1 : 6 < pats.length) : (2, -9) = addF m pats s := by unfold addF; rw [if_neg (fun hn => hn h), if_pos h1]
theorem addF_3 {m : Multi} {pats : List (List Int)} {s : List Int} (h : stateFault m s = (0, 0)) (h1 : ¬ 6 < pats.length) : patsF m pats s pats.length = addF m pats s := by unfold addF; rw [if_neg (fun hn => hn h), if_neg h1]
theorem addF_ok {m : Multi} {pats : List (List Int)} {s : List Int} (h : addF m pats s = (0, 0)) : stateFault m s = (0, 0) ∧ pats.length ≤ 6 ∧ ∀ k, k < pats.length → valF m (nth pats k) s = (0, 0) := by
  by_cases h0 : stateFault m s = (0, 0)
  · by_cases h1 : 6 < pats.length
    · rw [← addF_2 h0 h1] at h; cases h
    · rw [← addF_3 h0 h1] at h
      exact ⟨h0, by omega, patsF_all h⟩
  · rw [← addF_1 h0] at h; exact absurd h h0
theorem addF_of {m : Multi} {pats : List (List Int)} {s : List Int} (h0 : stateFault m s = (0, 0)) (h1 : pats.length ≤ 6) (h2 : ∀ k, k < pats.length → valF m (nth pats k) s = (0, 0)) : addF m pats s = (0, 0) := by
  rw [← addF_3 h0 (by omega)]; exact patsF_of h2
theorem addF_code {m : Multi} {pats : List (List Int)} {s : List Int} (h : (addF m pats s).1 = 0) : addF m pats s = (0, 0) := by
  by_cases h0 : stateFault m s = (0, 0)
  · by_cases h1 : 6 < pats.length
    · rw [← addF_2 h0 h1] at h; cases h
    · rw [← addF_3 h0 h1] at h ⊢
      generalize pats.length = n at h ⊢
      induction n with
      | zero => rfl
      | succ n ih =>
        simp only [patsF] at h ⊢
        split
        · rename_i h2
          rw [if_pos h2] at h
          split
          · rfl
          · rename_i h3; rw [if_neg h3] at h; exact absurd h (valF_ne h3)
        · rename_i h2; rw [if_neg h2] at h; exact absurd (ih h) h2
  · rw [← addF_1 h0] at h ⊢; exact stateFault_code h
theorem addR_1 {m : Multi} {pats : List (List Int)} {s : List Int} (h : addF m pats s ≠ (0, 0)) : addR m pats s = 0 := by unfold addR; rw [if_neg h]
theorem addR_0 {m : Multi} {pats : List (List Int)} {s : List Int} (h : addF m pats s = (0, 0)) : addR m pats s = bestV (valsL m pats s) (cmpF m pats) pats.length 0 [] := by unfold addR; rw [if_pos h]
theorem addF_pats {m : Multi} {pats : List (List Int)} {s : List Int} (h : addF m pats s = (0, 0)) : Valid m ∧ StateP m.sizes s ∧ PatsOk m pats := by
  obtain ⟨h0, h1, h2⟩ := addF_ok h
  obtain ⟨hv, hs⟩ := stateFault_ok h0
  exact ⟨hv, hs, fun i hi => by obtain ⟨_, _, a, b, c⟩ := valF_ok (h2 i hi); exact ⟨a, b, c⟩⟩
/-! ### The walk's words -/
noncomputable def valsTo (m : Multi) (pats : List (List Int)) (s : List Int) (k : Nat) : List Int := (List.range k).map fun (i : Nat) => valR m (nth pats i) s
theorem valsTo_s {m : Multi} {pats : List (List Int)} {s : List Int} {k : Nat} : valsTo m pats s (k + 1) = valsTo m pats s k ++ [valR m (nth pats k) s] := by simp [valsTo, List.range_succ]
theorem valsTo_len {m : Multi} {pats : List (List Int)} {s : List Int} {k : Nat} : (valsTo m pats s k).length = k := by simp [valsTo]
theorem valsTo_end {m : Multi} {pats : List (List Int)} {s : List Int} (h : ∀ k, k < pats.length → valF m (nth pats k) s = (0, 0)) : valsTo m pats s pats.length = valsL m pats s := ext_get (by rw [valsTo_len, valsL_len]) fun i hi => by
  rw [valsTo_len] at hi
  rw [valsL_at hi, nth_eq (by rw [valsTo_len]; exact hi)]
  simp only [valsTo, List.getElem_map, List.getElem_range]
  rw [valR_0 (h i hi)]
def chI (ch : List Nat) : List Int := ch.map fun (k : Nat) => (k : Int)
theorem chI_app {ch : List Nat} {i : Nat} : chI (ch ++ [i]) = chI ch ++ [(i : Int)] := by simp [chI]
theorem chI_any {ch : List Nat} {m : Multi} {pats : List (List Int)} {i : Nat} : ((chI ch).any fun k => !cmpF m pats i k.toNat) = ch.any fun k => !cmpF m pats i k := by
  simp only [chI, List.any_map]
  congr 1
theorem bestV_t {V : List Int} {C : Nat → Nat → Bool} {n i : Nat} {ch : List Nat} (hi : i < n) (h : (ch.any fun k => !C i k) = true) : bestV V C (n - (i + 1)) (i + 1) ch = bestV V C (n - i) i ch := by
  rw [show n - i = n - (i + 1) + 1 by omega]
  simp only [bestV]; rw [if_pos h]
theorem bestV_f {V : List Int} {C : Nat → Nat → Bool} {n i : Nat} {ch : List Nat} (hi : i < n) (h : (ch.any fun k => !C i k) = false) : max (bestV V C (n - (i + 1)) (i + 1) ch) (plusI (nth V i) (bestV V C (n - (i + 1)) (i + 1) (ch ++ [i]))) = bestV V C (n - i) i ch := by
  rw [show n - i = n - (i + 1) + 1 by omega]
  simp only [bestV]; rw [if_neg (by simp [h])]
theorem any_mem {l : List Int} {n : Int} : (l.any fun x => decide (n = x)) = decide (n ∈ l) := by
  rw [Bool.eq_iff_iff]
  simp only [List.any_eq_true, decide_eq_true_eq]
  exact ⟨fun ⟨x, hx, e⟩ => e ▸ hx, fun h => ⟨n, h, rfl⟩⟩
theorem caught_p2 (l1 l2 : List D) : Caught [.p l1, .p l2] := fun n hn => by
  cases n with
  | zero => omega
  | succ n => rfl
theorem caught_p3 (l1 l2 l3 : List D) : Caught [.p l1, .p l2, .p l3] := fun n hn => by
  cases n with
  | zero => omega
  | succ n => rfl
end Go.Eng
