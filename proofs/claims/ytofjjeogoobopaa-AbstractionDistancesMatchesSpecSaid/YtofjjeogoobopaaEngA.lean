/- Abstractions: the distances of all states, found in two ways. -/
import Derived.Test.YtofjjeogoobopaaEngN
import Derived.Test.YtofjjeogoobopaaEng15
set_option linter.unusedVariables false
set_option linter.unusedSimpArgs false
set_option linter.unusedSectionVars false
namespace Go.Eng
open Go

def nS (a : Abs) : Nat := a.states.toNat
def edgesOf (a : Abs) (c : List Int) : List Edge := a.arcs.map fun r => ⟨r.fr, r.to, nth c r.lab⟩
theorem edgesOf_len {a : Abs} {c : List Int} : (edgesOf a c).length = a.arcs.length := by simp [edgesOf]
theorem edgesOf_at {a : Abs} {c : List Int} {i : Nat} (hi : i < a.arcs.length) : nth (edgesOf a c) i = ⟨(nth a.arcs i).fr, (nth a.arcs i).to, nth c (nth a.arcs i).lab⟩ := by
  rw [nth_eq (by rw [edgesOf_len]; exact hi)]
  simp only [edgesOf, List.getElem_map]
  rw [nth_eq hi]
/-- The costs of all labels are there and in range. -/
abbrev CostFor (a : Abs) (c : List Int) : Prop := (c.length : Int) = a.labels ∧ ∀ i : Nat, i < c.length → 0 ≤ nth c i ∧ nth c i ≤ 1000000
theorem cost_at {a : Abs} {c : List Int} (hc : CostFor a c) {x : Int} (h0 : 0 ≤ x) (h1 : x < a.labels) : 0 ≤ nth c x ∧ nth c x ≤ 1000000 := by
  have := hc.2 x.toNat (by have := hc.1; omega)
  rwa [Int.toNat_of_nonneg h0] at this
theorem nS_eq {a : Abs} (ha : AbsOk a) : (nS a : Int) = a.states ∧ 1 ≤ nS a ∧ nS a ≤ 60 := by
  have := ha.head.1
  unfold nS
  omega
theorem edgesOk {a : Abs} {c : List Int} (ha : AbsOk a) (hc : CostFor a c) : EdgeOk (nS a) (edgesOf a c) := fun i hi => by
  rw [edgesOf_len] at hi
  rw [edgesOf_at hi]
  have h1 := ha.arc i hi
  have h2 := nS_eq ha
  rw [h2.1]
  exact ⟨h1.1, h1.2.2, (cost_at hc h1.2.1.1 h1.2.1.2).1⟩
def initG (a : Abs) : List Int := (List.range (nS a)).map fun (x : Nat) => if (x : Int) ∈ a.goals then 0 else 1000000000
theorem initG_len {a : Abs} : (initG a).length = nS a := by simp [initG]
theorem initG_at {a : Abs} {x : Int} (h0 : 0 ≤ x) (h1 : x < nS a) : nth (initG a) x = if x ∈ a.goals then 0 else 1000000000 := by
  have e : nth (initG a) x = nth (initG a) (x.toNat : Int) := by rw [Int.toNat_of_nonneg h0]
  rw [e, nth_eq (by rw [initG_len]; omega)]
  simp only [initG, List.getElem_map, List.getElem_range, Int.toNat_of_nonneg h0]
theorem initG_good {a : Abs} : GoodD (nS a) (initG a) := ⟨initG_len, fun x h0 h1 => by rw [initG_at h0 h1]; split <;> omega⟩
/-- The distances to the goals. -/
noncomputable def distL (a : Abs) (c : List Int) : List Int := fixE (edgesOf a c) (initG a)

/-! ### The goals, one by one -/
def goalSet (a : Abs) : Nat → List Int
  | 0 => List.replicate (nS a) 1000000000
  | k + 1 => setI (goalSet a k) (nth a.goals k) 0
theorem goalSet_len {a : Abs} : ∀ {k : Nat}, (goalSet a k).length = nS a
  | 0 => by simp [goalSet]
  | k + 1 => by simp only [goalSet, setI_len]; exact goalSet_len
theorem goalSet_at {a : Abs} (hg : SetP a.states a.goals) {x : Int} (h0 : 0 ≤ x) (h1 : x < nS a) : ∀ {k : Nat}, k ≤ a.goals.length → nth (goalSet a k) x = if ∃ i : Nat, i < k ∧ nth a.goals i = x then 0 else 1000000000
  | 0, _ => by
    have e : nth (goalSet a 0) x = nth (goalSet a 0) (x.toNat : Int) := by rw [Int.toNat_of_nonneg h0]
    rw [e, nth_eq (by rw [goalSet_len]; omega)]
    simp [goalSet]
  | k + 1, hk => by
    have ih := goalSet_at hg h0 h1 (k := k) (by omega)
    have hk' := hg k (by omega)
    simp only [goalSet]
    rw [nth_setI h0 (by rw [goalSet_len]; exact h1) hk'.1, ih]
    by_cases hx : x = nth a.goals k
    · rw [if_pos hx, if_pos ⟨k, by omega, hx.symm⟩]
    · rw [if_neg hx]
      by_cases he : ∃ i : Nat, i < k ∧ nth a.goals i = x
      · obtain ⟨i, h2, h3⟩ := he
        rw [if_pos ⟨i, h2, h3⟩, if_pos ⟨i, by omega, h3⟩]
      · rw [if_neg he, if_neg (fun ⟨i, h2, h3⟩ => by
          by_cases hik : i = k
          · subst hik; exact hx h3.symm
          · exact he ⟨i, by omega, h3⟩)]
theorem mem_nth {l : List Int} {x : Int} : x ∈ l ↔ ∃ i : Nat, i < l.length ∧ nth l i = x := by
  constructor
  · intro h
    obtain ⟨i, hi, rfl⟩ := List.getElem_of_mem h
    exact ⟨i, hi, nth_eq hi⟩
  · rintro ⟨i, hi, rfl⟩
    exact nth_mem (by omega) (by omega)
theorem goalSet_end {a : Abs} (hg : SetP a.states a.goals) : goalSet a a.goals.length = initG a := ext_get (by rw [goalSet_len, initG_len]) fun i hi => by
  rw [goalSet_len] at hi
  rw [goalSet_at hg (by omega) (by omega) (Nat.le_refl _), initG_at (by omega) (by omega)]
  by_cases h : (i : Int) ∈ a.goals
  · rw [if_pos h, if_pos (mem_nth.1 h)]
  · rw [if_neg h, if_neg (fun hn => h (mem_nth.2 hn))]

/-! ### The nearest state is settled first -/
def fillD (a : Abs) (k : Nat) : List Int := (List.range (nS a)).map fun (x : Nat) => if x < k then (if (x : Int) ∈ a.goals then 0 else 1000000000) else 0
theorem fillD_len {a : Abs} {k : Nat} : (fillD a k).length = nS a := by simp [fillD]
theorem fillD_0 {a : Abs} : fillD a 0 = List.replicate (nS a) 0 := by
  refine List.ext_getElem (by simp [fillD]) fun i h1 h2 => ?_
  simp [fillD]
theorem fillD_end {a : Abs} : fillD a (nS a) = initG a := by
  refine List.ext_getElem (by simp [fillD, initG]) fun i h1 h2 => ?_
  have : i < nS a := by simpa [initG] using h2
  simp [fillD, initG, this]
theorem fillD_at {a : Abs} {k x : Nat} (hx : x < nS a) : nth (fillD a k) x = if x < k then (if (x : Int) ∈ a.goals then 0 else 1000000000) else 0 := by
  rw [nth_eq (by rw [fillD_len]; exact hx)]
  simp only [fillD, List.getElem_map, List.getElem_range]
theorem fillD_s {a : Abs} {k : Nat} (hk : k < nS a) : fillD a (k + 1) = setI (fillD a k) k (if (k : Int) ∈ a.goals then 0 else 1000000000) := by
  refine ext_get (by rw [setI_len, fillD_len, fillD_len]) fun i h1 => ?_
  rw [fillD_len] at h1
  rw [nth_setI (by omega) (by rw [fillD_len]; omega) (by omega), fillD_at h1, fillD_at h1]
  by_cases hi : i = k
  · subst hi; rw [if_pos (by omega), if_pos rfl]
  · rw [if_neg (show ¬ ((i : Int) = (k : Int)) by omega)]
    by_cases h3 : i < k
    · rw [if_pos (by omega), if_pos h3]
    · rw [if_neg (by omega), if_neg h3]
theorem fillD_t {a : Abs} {k : Nat} (hk : k < nS a) (h : (k : Int) ∈ a.goals) : fillD a (k + 1) = setI (setI (fillD a k) k 1000000000) k 0 := by
  rw [fillD_s hk, if_pos h]
  simp [setI]
theorem fillD_f {a : Abs} {k : Nat} (hk : k < nS a) (h : ¬ (k : Int) ∈ a.goals) : fillD a (k + 1) = setI (fillD a k) k 1000000000 := by
  rw [fillD_s hk, if_neg h]
def bestD (d : List Int) (s : List Bool) : Nat → Int
  | 0 => -1
  | k + 1 => if nth s k = false ∧ nth d k < 1000000000 ∧ (bestD d s k < 0 ∨ nth d k < nth d (bestD d s k)) then k else bestD d s k
theorem bestD_in {d : List Int} {s : List Bool} : ∀ {k : Nat}, -1 ≤ bestD d s k ∧ bestD d s k < k
  | 0 => by simp [bestD]
  | k + 1 => by
    have := bestD_in (d := d) (s := s) (k := k)
    simp only [bestD]
    split <;> omega
theorem bestD_spec {d : List Int} {s : List Bool} : ∀ {k : Nat}, (bestD d s k < 0 → ∀ x : Nat, x < k → nth s x = false → 1000000000 ≤ nth d x) ∧
    (0 ≤ bestD d s k → nth s (bestD d s k) = false ∧ nth d (bestD d s k) < 1000000000 ∧ ∀ x : Nat, x < k → nth s x = false → nth d (bestD d s k) ≤ nth d x)
  | 0 => ⟨fun _ x hx => by omega, fun h => by simp [bestD] at h⟩
  | k + 1 => by
    obtain ⟨h1, h2⟩ := bestD_spec (d := d) (s := s) (k := k)
    have hb := bestD_in (d := d) (s := s) (k := k)
    simp only [bestD]
    split
    · rename_i hc
      refine ⟨fun h => by omega, fun _ => ⟨hc.1, hc.2.1, fun x hx hs => ?_⟩⟩
      by_cases hxk : x = k
      · subst hxk; exact Int.le_refl _
      · rcases hc.2.2 with h | h
        · have := h1 h x (by omega) hs; omega
        · by_cases h3 : bestD d s k < 0
          · have := h1 h3 x (by omega) hs; omega
          · have := (h2 (by omega)).2.2 x (by omega) hs; omega
    · rename_i hc
      refine ⟨fun h x hx hs => ?_, fun h => ⟨(h2 h).1, (h2 h).2.1, fun x hx hs => ?_⟩⟩
      · by_cases hxk : x = k
        · subst hxk
          refine Int.not_lt.1 fun hlt => hc ⟨hs, hlt, .inl h⟩
        · exact h1 h x (by omega) hs
      · by_cases hxk : x = k
        · subst hxk
          by_cases hlt : nth d x < 1000000000
          · refine Int.not_lt.1 fun h4 => hc ⟨hs, hlt, .inr h4⟩
          · have := (h2 h).2.1; omega
        · exact (h2 h).2.2 x (by omega) hs
def relaxTo (a : Abs) (c : List Int) (b : Int) (d : List Int) : Nat → List Int
  | 0 => d
  | i + 1 => if (nth a.arcs i).to = b then setI (relaxTo a c b d i) (nth a.arcs i).fr (min (nth (relaxTo a c b d i) (nth a.arcs i).fr) (nth (relaxTo a c b d i) b + nth c (nth a.arcs i).lab)) else relaxTo a c b d i
theorem relaxTo_t {a : Abs} {c : List Int} {b : Int} {d : List Int} {i : Nat} (h : (nth a.arcs i).to = b) : relaxTo a c b d (i + 1) = setI (relaxTo a c b d i) (nth a.arcs i).fr (min (nth (relaxTo a c b d i) (nth a.arcs i).fr) (nth (relaxTo a c b d i) b + nth c (nth a.arcs i).lab)) := by
  simp only [relaxTo]; rw [if_pos h]
theorem relaxTo_f {a : Abs} {c : List Int} {b : Int} {d : List Int} {i : Nat} (h : ¬ (nth a.arcs i).to = b) : relaxTo a c b d (i + 1) = relaxTo a c b d i := by
  simp only [relaxTo]; rw [if_neg h]
section
variable {a : Abs} {c : List Int} (ha : AbsOk a) (hc : CostFor a c)
include ha hc
theorem distL_good : GoodD (nS a) (distL a c) := fixE_good (edgesOk ha hc) initG_good
theorem distL_tri {i : Nat} (hi : i < a.arcs.length) : nth (distL a c) (nth a.arcs i).fr ≤ nth (distL a c) (nth a.arcs i).to + nth c (nth a.arcs i).lab := by
  have := fixE_tri (edgesOk ha hc) initG_good (i := i) (by rw [edgesOf_len]; exact hi)
  rwa [edgesOf_at hi] at this
theorem relaxTo_spec {b : Int} {d : List Int} (hb0 : 0 ≤ b) (hb1 : b < nS a) (hg : GoodD (nS a) d) (hge : ∀ x : Int, 0 ≤ x → x < nS a → nth (distL a c) x ≤ nth d x) : ∀ {i : Nat}, i ≤ a.arcs.length →
    GoodD (nS a) (relaxTo a c b d i) ∧ (∀ x : Int, 0 ≤ x → x < nS a → nth (relaxTo a c b d i) x ≤ nth d x ∧ (nth (relaxTo a c b d i) x = nth d x ∨ nth d b ≤ nth (relaxTo a c b d i) x) ∧ nth (distL a c) x ≤ nth (relaxTo a c b d i) x) ∧
      ∀ k : Nat, k < i → (nth a.arcs k).to = b → nth (relaxTo a c b d i) (nth a.arcs k).fr ≤ nth d b + nth c (nth a.arcs k).lab
  | 0, _ => ⟨hg, fun x h0 h1 => ⟨Int.le_refl _, .inl rfl, hge x h0 h1⟩, fun k hk => by omega⟩
  | i + 1, hi => by
    obtain ⟨h1, h2, h3⟩ := relaxTo_spec hb0 hb1 hg hge (i := i) (by omega)
    have hn := nS_eq ha
    have har := ha.arc i (by omega)
    have hw := cost_at hc har.2.1.1 har.2.1.2
    by_cases ht : (nth a.arcs i).to = b
    · rw [relaxTo_t ht]
      have hbb := h2 b hb0 hb1
      have hfr := h2 (nth a.arcs i).fr har.1.1 (by omega)
      have hgf := h1.2 (nth a.arcs i).fr har.1.1 (by omega)
      have hgb := h1.2 b hb0 hb1
      have htri := distL_tri ha hc (i := i) (by omega)
      rw [ht] at htri
      have hat : ∀ x : Int, 0 ≤ x → x < nS a → nth (setI (relaxTo a c b d i) (nth a.arcs i).fr (min (nth (relaxTo a c b d i) (nth a.arcs i).fr) (nth (relaxTo a c b d i) b + nth c (nth a.arcs i).lab))) x = if x = (nth a.arcs i).fr then min (nth (relaxTo a c b d i) (nth a.arcs i).fr) (nth (relaxTo a c b d i) b + nth c (nth a.arcs i).lab) else nth (relaxTo a c b d i) x := fun x h0 h4 =>
        nth_setI h0 (by rw [h1.1]; exact h4) har.1.1
      refine ⟨⟨by rw [setI_len]; exact h1.1, fun x h0 h4 => ?_⟩, fun x h0 h4 => ?_, fun k hk hkt => ?_⟩
      · rw [hat x h0 h4]
        have := h1.2 x h0 h4
        split <;> omega
      · rw [hat x h0 h4]
        have := h2 x h0 h4
        split
        · rename_i e; subst e; omega
        · exact this
      · have hk' := ha.arc k (by omega)
        rw [hat _ hk'.1.1 (by omega)]
        by_cases hki : k = i
        · subst hki; rw [if_pos rfl]; omega
        · have := h3 k (by omega) hkt
          split
          · rename_i e; rw [e] at this; omega
          · exact this
    · rw [relaxTo_f ht]
      refine ⟨h1, h2, fun k hk hkt => ?_⟩
      by_cases hki : k = i
      · subst hki; exact absurd hkt ht
      · exact h3 k (by omega) hkt
end
/-- Between two rounds. -/
structure DInv (a : Abs) (c : List Int) (d : List Int) (s : List Bool) : Prop where
  good : GoodD (nS a) d
  sl : s.length = nS a
  le0 : ∀ x : Int, 0 ≤ x → x < nS a → nth d x ≤ nth (initG a) x
  ge : ∀ x : Int, 0 ≤ x → x < nS a → nth (distL a c) x ≤ nth d x
  ord : ∀ x y : Int, 0 ≤ x → x < nS a → 0 ≤ y → y < nS a → nth s x = true → nth s y = false → nth d x ≤ nth d y
  rel : ∀ i : Nat, i < a.arcs.length → nth s (nth a.arcs i).to = true → nth d (nth a.arcs i).fr ≤ nth d (nth a.arcs i).to + nth c (nth a.arcs i).lab
def openN (s : List Bool) : Nat := (s.filter fun b => !b).length
theorem openN_set : ∀ {s : List Bool} {i : Nat} (h : i < s.length), s[i] = false → openN (s.set i true) < openN s
  | b :: s, 0, h, hb => by
    simp at hb; subst hb
    simp [openN]
  | b :: s, i + 1, h, hb => by
    have := openN_set (s := s) (i := i) (by simpa using h) (by simpa using hb)
    simp only [openN, List.set_cons_succ, List.filter_cons] at this ⊢
    split <;> simp <;> exact this
theorem bestD_t {d : List Int} {s : List Bool} {k : Nat} (h : nth s k = false ∧ nth d k < 1000000000 ∧ (bestD d s k < 0 ∨ nth d k < nth d (bestD d s k))) : (k : Int) = bestD d s (k + 1) := by
  simp only [bestD]; rw [if_pos h]
theorem bestD_f {d : List Int} {s : List Bool} {k : Nat} (h : ¬ (nth s k = false ∧ nth d k < 1000000000 ∧ (bestD d s k < 0 ∨ nth d k < nth d (bestD d s k)))) : bestD d s k = bestD d s (k + 1) := by
  simp only [bestD]; rw [if_neg h]
def repTo (c : Int) (n k : Nat) : List Int := List.replicate k c ++ List.replicate (n - k) 0
theorem repTo_len {c : Int} {n k : Nat} (h : k ≤ n) : (repTo c n k).length = n := by simp [repTo]; omega
theorem repTo_end {c : Int} {n : Nat} : repTo c n n = List.replicate n c := by simp [repTo]
theorem repTo_s {c : Int} {n k m : Nat} (h : k + m ≤ n) (hm : m ≤ k) : (repTo c n k).take k ++ (repTo c n k).take m ++ (repTo c n k).drop (k + m) = repTo c n (k + m) := by
  unfold repTo
  have e1 : (List.replicate k c ++ List.replicate (n - k) (0 : Int)).take k = List.replicate k c := by simp
  have e2 : (List.replicate k c ++ List.replicate (n - k) (0 : Int)).take m = List.replicate m c := by
    rw [List.take_append_of_le_length (by simpa using hm)]
    simp [Nat.min_eq_left hm]
  have e3 : (List.replicate k c ++ List.replicate (n - k) (0 : Int)).drop (k + m) = List.replicate (n - (k + m)) 0 := by
    rw [List.drop_append]
    simp
    omega
  rw [e1, e2, e3, List.replicate_append_replicate]
theorem wrap_pred {n : Int} (hr : -9223372036854775808 ≤ n ∧ n ≤ 9223372036854775807) : 0 ≤ IntKind.i64.wrap (n - 1) ∧ IntKind.i64.wrap (n - 1) < 60 ↔ 1 ≤ n ∧ n ≤ 60 := by
  by_cases h : -9223372036854775808 ≤ n - 1
  · rw [wrap_i64 h (by omega)]; omega
  · have : n = -9223372036854775808 := by omega
    subst this
    have e : IntKind.i64.wrap (-9223372036854775808 - 1) = 9223372036854775807 := by decide
    rw [e]; omega
theorem Le.uu {b c : Int} (h : b = c) : Le (U b) (U c) := h ▸ .refl _
section
variable {a : Abs} {c : List Int} (ha : AbsOk a) (hc : CostFor a c)
include ha hc
theorem dinv_0 : DInv a c (initG a) (List.replicate (nS a) false) := {
  good := initG_good
  sl := by simp
  le0 := fun _ _ _ => Int.le_refl _
  ge := fun x h0 h1 => fixE_le (edgesOk ha hc) initG_good h0 h1
  ord := fun x y h0 h1 _ _ h => by
    have e : nth (List.replicate (nS a) false) x = nth (List.replicate (nS a) false) (x.toNat : Int) := by rw [Int.toNat_of_nonneg h0]
    rw [e, nth_eq (by simp; omega)] at h
    simp at h
  rel := fun i hi h => by
    have hn := nS_eq ha
    have har := ha.arc i hi
    have e : nth (List.replicate (nS a) false) (nth a.arcs i).to = nth (List.replicate (nS a) false) ((nth a.arcs i).to.toNat : Int) := by rw [Int.toNat_of_nonneg har.2.2.1]
    rw [e, nth_eq (by simp; omega)] at h
    simp at h }
theorem dinv_s {d : List Int} {s : List Bool} (hi : DInv a c d s) (hb : 0 ≤ bestD d s (nS a)) : DInv a c (relaxTo a c (bestD d s (nS a)) d a.arcs.length) (setI s (bestD d s (nS a)) true) ∧ openN (setI s (bestD d s (nS a)) true) < openN s := by
  obtain ⟨b, hbe⟩ : ∃ b, b = bestD d s (nS a) := ⟨_, rfl⟩
  have hbin := bestD_in (d := d) (s := s) (k := nS a)
  obtain ⟨g1, g2, g3⟩ := (bestD_spec (d := d) (s := s) (k := nS a)).2 hb
  rw [← hbe] at hb hbin g1 g2 g3 ⊢
  have hn := nS_eq ha
  obtain ⟨h1, h2, h3⟩ := relaxTo_spec ha hc hb hbin.2 hi.good hi.ge (i := a.arcs.length) (Nat.le_refl _)
  have hset : ∀ x : Int, 0 ≤ x → x < nS a → nth (setI s b true) x = if x = b then true else nth s x := fun x h0 h4 => nth_setI h0 (by rw [hi.sl]; exact h4) hb
  have hmin : ∀ x : Int, 0 ≤ x → x < nS a → nth s x = false → nth d b ≤ nth d x := fun x h0 h4 hs => by
    have := g3 x.toNat (by omega) (by rw [Int.toNat_of_nonneg h0]; exact hs)
    rwa [Int.toNat_of_nonneg h0] at this
  have hold : ∀ x : Int, 0 ≤ x → x < nS a → nth s x = true → nth (relaxTo a c b d a.arcs.length) x = nth d x := fun x h0 h4 hs => by
    have := hi.ord x b h0 h4 hb hbin.2 hs g1
    have := h2 x h0 h4
    omega
  have hb2 := h2 b hb hbin.2
  refine ⟨⟨h1, by rw [setI_len]; exact hi.sl, fun x h0 h4 => ?_, fun x h0 h4 => (h2 x h0 h4).2.2, fun x y hx0 hx1 hy0 hy1 hsx hsy => ?_, fun i hlt hs => ?_⟩, ?_⟩
  · have := hi.le0 x h0 h4
    have := (h2 x h0 h4).1
    omega
  · rw [hset x hx0 hx1] at hsx
    rw [hset y hy0 hy1] at hsy
    have hyb : ¬ y = b := fun e => by rw [if_pos e] at hsy; cases hsy
    rw [if_neg hyb] at hsy
    have hy2 := h2 y hy0 hy1
    have hym := hmin y hy0 hy1 hsy
    by_cases hxb : x = b
    · subst hxb; omega
    · rw [if_neg hxb] at hsx
      rw [hold x hx0 hx1 hsx]
      have := hi.ord x y hx0 hx1 hy0 hy1 hsx hsy
      have := hi.ord x b hx0 hx1 hb hbin.2 hsx g1
      omega
  · have har := ha.arc i hlt
    rw [hset _ har.2.2.1 (by omega)] at hs
    by_cases htb : (nth a.arcs i).to = b
    · have := h3 i hlt htb
      rw [htb]; omega
    · rw [if_neg htb] at hs
      rw [hold _ har.2.2.1 (by omega) hs]
      have := hi.rel i hlt hs
      have := (h2 _ har.1.1 (by omega)).1
      omega
  · have hlt : b.toNat < s.length := by rw [hi.sl]; omega
    refine openN_set hlt ?_
    rw [← nth_eq hlt, Int.toNat_of_nonneg hb]
    exact g1
theorem dinv_end {d : List Int} {s : List Bool} (hi : DInv a c d s) (hb : bestD d s (nS a) < 0) : d = distL a c := by
  have hn := nS_eq ha
  have hno := (bestD_spec (d := d) (s := s) (k := nS a)).1 hb
  refine fixE_uniq (edgesOk ha hc) initG_good hi.good hi.le0 (fun i hlt => ?_) hi.ge
  rw [edgesOf_len] at hlt
  rw [edgesOf_at hlt]
  have har := ha.arc i hlt
  have hw := cost_at hc har.2.1.1 har.2.1.2
  show nth d (nth a.arcs i).fr ≤ nth d (nth a.arcs i).to + nth c (nth a.arcs i).lab
  cases hs : nth s (nth a.arcs i).to with
  | true => exact hi.rel i hlt hs
  | false =>
    have h1 := hno (nth a.arcs i).to.toNat (by omega) (by rw [Int.toNat_of_nonneg har.2.2.1]; exact hs)
    rw [Int.toNat_of_nonneg har.2.2.1] at h1
    have := hi.good.2 _ har.1.1 (by omega)
    omega
theorem distL_goal {x : Int} (h0 : 0 ≤ x) (h1 : x < nS a) (hg : x ∈ a.goals) : nth (distL a c) x = 0 := by
  have h2 := fixE_le (edgesOk ha hc) initG_good h0 h1
  rw [initG_at h0 h1, if_pos hg] at h2
  have h3 := (distL_good ha hc).2 x h0 h1
  have h4 : nth (distL a c) x ≤ 0 := h2
  omega
/-- What is consistent is at most the distance. -/
theorem distL_ge {f : Int → Int} (h1 : ∀ x : Int, 0 ≤ x → x < nS a → f x ≤ 1000000000) (h2 : ∀ x : Int, 0 ≤ x → x < nS a → x ∈ a.goals → f x ≤ 0) (h3 : ∀ i : Nat, i < a.arcs.length → f (nth a.arcs i).fr ≤ f (nth a.arcs i).to + nth c (nth a.arcs i).lab) {x : Int} (hx0 : 0 ≤ x) (hx1 : x < nS a) : f x ≤ nth (distL a c) x := by
  refine fixE_ge (edgesOk ha hc) initG_good (f := f) (fun x h0 h4 => ?_) (fun i hi => ?_) hx0 hx1
  · rw [initG_at h0 h4]
    split
    · rename_i hg; exact h2 x h0 h4 hg
    · exact h1 x h0 h4
  · rw [edgesOf_len] at hi
    rw [edgesOf_at hi]
    exact h3 i hi
theorem distL_tight {x : Int} (h0 : 0 ≤ x) (h1 : x < nS a) (hg : x ∉ a.goals) (hlt : nth (distL a c) x < 1000000000) : ∃ i : Nat, i < a.arcs.length ∧ (nth a.arcs i).fr = x ∧ nth (distL a c) (nth a.arcs i).to < 1000000000 ∧ nth (distL a c) x = nth (distL a c) (nth a.arcs i).to + nth c (nth a.arcs i).lab := by
  obtain ⟨i, hi, hfr, he⟩ := fixE_tight (edgesOk ha hc) initG_good h0 h1 (by rw [initG_at h0 h1, if_neg hg]; exact hlt)
  rw [edgesOf_len] at hi
  rw [edgesOf_at hi] at hfr he
  have har := ha.arc i hi
  have hw := cost_at hc har.2.1.1 har.2.1.2
  have he' : nth (distL a c) x = nth (distL a c) (nth a.arcs i).to + nth c (nth a.arcs i).lab := he
  exact ⟨i, hi, hfr, by omega, he'⟩
end
end Go.Eng
