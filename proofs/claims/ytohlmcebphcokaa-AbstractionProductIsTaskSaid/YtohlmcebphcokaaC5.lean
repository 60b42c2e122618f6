/- The engine and the walks that this claim uses, part 5. Written by prune.py out of our own texts. -/
import Derived.Test.YtohlmcebphcokaaC4
section
/- Graphs with labelled arcs: data, faults, distances. -/

set_option linter.unusedVariables false
set_option linter.unusedSimpArgs false
set_option linter.unusedSectionVars false
namespace Go.Eng
open Go

structure Arc where
  fr : Int
  lab : Int
  to : Int
deriving DecidableEq
instance : Inhabited Arc := ⟨⟨0, 0, 0⟩⟩
structure Abs where
  states : Int
  labels : Int
  arcs : List Arc
  init : Int
  goals : List Int
deriving DecidableEq
instance : Inhabited Abs := ⟨⟨0, 0, [], 0, []⟩⟩
abbrev arcC (x : Arc) : List D := [.v (.int .i64 x.fr), .v (.int .i64 x.lab), .v (.int .i64 x.to)]
abbrev arcsD (l : List Arc) : D := .s 3 (l.map arcC)
abbrev arcS (x : Arc) : S := .g [I x.fr, I x.lab, I x.to]
abbrev absC (a : Abs) : List D := [.v (.int .i64 a.states), .v (.int .i64 a.labels), arcsD a.arcs, .v (.int .i64 a.init), ints a.goals]
abbrev absS (a : Abs) : S := .g [I a.states, I a.labels, .d (arcsD a.arcs), I a.init, .d (ints a.goals)]
abbrev abssD (l : List Abs) : D := .s 5 (l.map absC)

/-! ### The order of arcs -/
abbrev arcLt (x y : Arc) : Prop := x.fr < y.fr ∨ (x.fr = y.fr ∧ (x.lab < y.lab ∨ (x.lab = y.lab ∧ x.to < y.to)))
def cmpI (x y : Int) : Int := if x < y then -1 else if y < x then 1 else 0
theorem cmpI_1 {x y : Int} (h : x < y) : -1 = cmpI x y := by unfold cmpI; rw [if_pos h]
theorem cmpI_2 {x y : Int} (h : ¬ x < y) (h' : y < x) : 1 = cmpI x y := by unfold cmpI; rw [if_neg h, if_pos h']
theorem cmpI_3 {x y : Int} (h : ¬ x < y) (h' : ¬ y < x) : 0 = cmpI x y := by unfold cmpI; rw [if_neg h, if_neg h']
/-- The first number that is not 0. -/
def orI (l : List Int) : Int := (l.find? fun x => decide (x ≠ 0)).getD 0
theorem orI_some {l : List Int} {k : Nat} (hk : k < l.length) (h : ∀ j : Nat, j < k → nth l j = 0) (hp : nth l k ≠ 0) : nth l k = orI l := by
  unfold orI
  have h1 : l.find? (fun x => decide (x ≠ 0)) = some l[k] := by
    rw [List.find?_eq_some_iff_getElem]
    refine ⟨by rw [← nth_eq hk]; simpa using hp, k, hk, rfl, fun j hj => ?_⟩
    have := h j hj
    rw [nth_eq (by omega)] at this
    simp [this]
  rw [h1, nth_eq hk]; rfl
theorem orI_none {l : List Int} (h : ∀ j : Nat, j < l.length → nth l j = 0) : 0 = orI l := by
  unfold orI
  have h1 : l.find? (fun x => decide (x ≠ 0)) = none := by
    rw [List.find?_eq_none]
    intro x hx
    obtain ⟨i, hi, rfl⟩ := List.getElem_of_mem hx
    have := h i hi
    rw [nth_eq hi] at this
    simp [this]
  rw [h1]; rfl
def cmpArc (x y : Arc) : Int := orI [cmpI x.fr y.fr, cmpI x.lab y.lab, cmpI x.to y.to]
theorem cmpArc_lt {x y : Arc} : cmpArc x y < 0 ↔ arcLt x y := by
  unfold cmpArc orI
  simp only [List.find?_cons, List.find?_nil]
  unfold cmpI
  by_cases h1 : x.fr < y.fr
  · simp [h1]; exact .inl h1
  · by_cases h2 : y.fr < x.fr
    · simp [h1, h2]; omega
    · have e : x.fr = y.fr := by omega
      by_cases h3 : x.lab < y.lab
      · simp [h1, h2, h3, e]; exact .inr ⟨e, .inl h3⟩
      · by_cases h4 : y.lab < x.lab
        · simp [h1, h2, h3, h4, e]; omega
        · have e2 : x.lab = y.lab := by omega
          by_cases h5 : x.to < y.to
          · simp [h1, h2, h3, h4, h5, e, e2]; exact .inr ⟨e, .inr ⟨e2, h5⟩⟩
          · by_cases h6 : y.to < x.to
            · simp [h1, h2, h3, h4, h5, h6, e, e2]
              try omega
            · simp [h1, h2, h3, h4, h5, h6, e, e2]
theorem cmpArc_ge {x y : Arc} : 0 ≤ cmpArc x y ↔ ¬ arcLt x y := by
  rw [← cmpArc_lt]; omega

/-! ### Faults -/
abbrev arcIn (a : Abs) (x : Arc) : Prop := (0 ≤ x.fr ∧ x.fr < a.states) ∧ (0 ≤ x.lab ∧ x.lab < a.labels) ∧ (0 ≤ x.to ∧ x.to < a.states)
abbrev headOk (a : Abs) : Prop := (1 ≤ a.states ∧ a.states ≤ 60) ∧ (0 ≤ a.labels ∧ a.labels ≤ 40) ∧ (0 ≤ a.init ∧ a.init < a.states)
def arcFault (a : Abs) (i : Nat) : Int × Int := if ¬ arcIn a (nth a.arcs i) then (3, i) else if 0 < i ∧ ¬ arcLt (nth a.arcs (i - 1 : Int)) (nth a.arcs i) then (5, i) else (0, 0)
def arcsFault (a : Abs) : Int × Int :=
  match firstBad a.arcs.length (fun i => decide (arcFault a i = (0, 0))) with
  | some i => arcFault a i
  | none => (0, 0)
def absFault (a : Abs) : Int × Int :=
  if ¬ headOk a then (3, -1) else if ¬ SetP a.states a.goals then (5, -2) else if 400 < a.arcs.length then (2, -3) else arcsFault a
theorem arcFault_3 {a : Abs} {i : Nat} (h : ¬ arcIn a (nth a.arcs i)) : arcFault a i = (3, (i : Int)) := by unfold arcFault; rw [if_pos h]
theorem arcFault_5 {a : Abs} {i : Nat} (h : arcIn a (nth a.arcs i)) (h' : 0 < i ∧ ¬ arcLt (nth a.arcs (i - 1 : Int)) (nth a.arcs i)) : arcFault a i = (5, (i : Int)) := by unfold arcFault; rw [if_neg (fun hn => hn h), if_pos h']
theorem arcFault_0 {a : Abs} {i : Nat} (h : arcIn a (nth a.arcs i)) (h' : ¬ (0 < i ∧ ¬ arcLt (nth a.arcs (i - 1 : Int)) (nth a.arcs i))) : arcFault a i = (0, 0) := by unfold arcFault; rw [if_neg (fun hn => hn h), if_neg h']
section
variable {a : Abs}
theorem absFault_1 (h : ¬ headOk a) : (3, -1) = absFault a := by unfold absFault; rw [if_pos h]
theorem absFault_2 (h : headOk a) (h2 : ¬ SetP a.states a.goals) : (5, -2) = absFault a := by unfold absFault; rw [if_neg (fun hn => hn h), if_pos h2]
theorem absFault_3 (h : headOk a) (h2 : SetP a.states a.goals) (h3 : 400 < a.arcs.length) : (2, -3) = absFault a := by unfold absFault; rw [if_neg (fun hn => hn h), if_neg (fun hn => hn h2), if_pos h3]
theorem absFault_4 (h : headOk a) (h2 : SetP a.states a.goals) (h3 : ¬ 400 < a.arcs.length) : absFault a = arcsFault a := by unfold absFault; rw [if_neg (fun hn => hn h), if_neg (fun hn => hn h2), if_neg h3]
theorem absFault_5 (h : headOk a) (h2 : SetP a.states a.goals) (h3 : ¬ 400 < a.arcs.length) {k : Nat} (hk : k < a.arcs.length) (hl : ∀ j : Nat, j < k → arcFault a j = (0, 0)) {c : Int} (hc : arcFault a k = (c, (k : Int))) (hc0 : c ≠ 0) : (c, (k : Int)) = absFault a := by
  rw [absFault_4 h h2 h3]
  unfold arcsFault
  rw [firstBad_some hk (fun j hj => by simp [hl j hj]) (by rw [hc]; simp [hc0])]
  exact hc.symm
theorem absFault_0 (h : headOk a) (h2 : SetP a.states a.goals) (h3 : ¬ 400 < a.arcs.length) (hl : ∀ j : Nat, j < a.arcs.length → arcFault a j = (0, 0)) : (0, 0) = absFault a := by
  rw [absFault_4 h h2 h3]
  unfold arcsFault
  rw [firstBad_none (fun j hj => by simp [hl j hj])]
/-- What a valid abstraction gives. -/
structure AbsOk (a : Abs) : Prop where
  head : headOk a
  goals : SetP a.states a.goals
  len : a.arcs.length ≤ 400
  arc : ∀ i : Nat, i < a.arcs.length → arcIn a (nth a.arcs i)
  ord : ∀ i : Nat, 0 < i → i < a.arcs.length → arcLt (nth a.arcs (i - 1 : Int)) (nth a.arcs i)
theorem arcFault_ok {i : Nat} (h : arcFault a i = (0, 0)) : arcIn a (nth a.arcs i) ∧ (0 < i → arcLt (nth a.arcs (i - 1 : Int)) (nth a.arcs i)) := by
  unfold arcFault at h
  split at h
  · cases h
  · rename_i h1
    split at h
    · cases h
    · rename_i h2; exact ⟨Decidable.not_not.1 h1, fun hi => Decidable.not_not.1 fun hn => h2 ⟨hi, hn⟩⟩
theorem arcFault_cases {i : Nat} : arcFault a i = (0, 0) ∨ (arcFault a i).1 ≠ 0 := by
  unfold arcFault
  split
  · right; exact fun h => by cases h
  · split
    · right; exact fun h => by cases h
    · left; rfl
theorem absFault_ok (h : (absFault a).1 = 0) : AbsOk a ∧ absFault a = (0, 0) := by
  by_cases h1 : headOk a
  · by_cases h2 : SetP a.states a.goals
    · by_cases h3 : 400 < a.arcs.length
      · rw [← absFault_3 h1 h2 h3] at h; cases h
      · rw [absFault_4 h1 h2 h3] at h ⊢
        have hall : ∀ j : Nat, j < a.arcs.length → arcFault a j = (0, 0) := by
          refine Classical.byContradiction fun hc => ?_
          unfold arcsFault at h
          cases hf : firstBad a.arcs.length (fun i => decide (arcFault a i = (0, 0))) with
          | none =>
            unfold firstBad at hf
            rw [List.find?_eq_none] at hf
            exact hc fun j hj => by
              have := hf j (List.mem_range.2 hj)
              simpa using this
          | some i =>
            rw [hf] at h
            unfold firstBad at hf
            have := List.find?_some hf
            rcases arcFault_cases (a := a) (i := i) with h4 | h4
            · simp [h4] at this
            · exact h4 h
        refine ⟨⟨h1, h2, by omega, fun i hi => (arcFault_ok (hall i hi)).1, fun i h0 hi => (arcFault_ok (hall i hi)).2 h0⟩, ?_⟩
        unfold arcsFault
        rw [firstBad_none (fun j hj => by simp [hall j hj])]
    · rw [← absFault_2 h1 h2] at h; cases h
  · rw [← absFault_1 h1] at h; cases h
theorem absFault_of (h : AbsOk a) : absFault a = (0, 0) := (absFault_0 h.head h.goals (by have := h.len; omega) (fun j hj => arcFault_0 (h.arc j hj) (fun hn => hn.2 (h.ord j hn.1 hj)))).symm
end
/-! ### Costs of labels -/
abbrev CostP (c : List Int) : Prop := ∀ i : Nat, i < c.length → 0 ≤ nth c i ∧ nth c i ≤ 1000000
def costCode (c : List Int) (n : Int) : Int := if (c.length : Int) ≠ n then 9 else if ¬ CostP c then 3 else 0
def costFault (c : List Int) (n i : Int) : Int × Int := if costCode c n = 0 then (0, 0) else (costCode c n, i)
theorem costCode_9 {c : List Int} {n : Int} (h : (c.length : Int) ≠ n) : 9 = costCode c n := by unfold costCode; rw [if_pos h]
theorem costCode_3 {c : List Int} {n : Int} (h : (c.length : Int) = n) (h' : ¬ CostP c) : 3 = costCode c n := by unfold costCode; rw [if_neg (fun hn => hn h), if_pos h']
theorem costCode_0 {c : List Int} {n : Int} (h : (c.length : Int) = n) (h' : CostP c) : 0 = costCode c n := by unfold costCode; rw [if_neg (fun hn => hn h), if_neg (fun hn => hn h')]
theorem costCode_ok {c : List Int} {n : Int} (h : costCode c n = 0) : (c.length : Int) = n ∧ CostP c := by
  unfold costCode at h
  split at h
  · cases h
  · rename_i h1
    split at h
    · cases h
    · rename_i h2; exact ⟨Decidable.not_not.1 h1, Decidable.not_not.1 h2⟩
theorem costFault_bad {c : List Int} {n i e : Int} (h : e = costCode c n) (h0 : e ≠ 0) : (e, i) = costFault c n i := by unfold costFault; rw [if_neg (by rw [← h]; exact h0), h]
theorem costFault_ok {c : List Int} {n i : Int} (h : 0 = costCode c n) : (0, 0) = costFault c n i := by unfold costFault; rw [if_pos h.symm]
theorem costFault_ok' {c : List Int} {n i : Int} (h : (costFault c n i).1 = 0) : (c.length : Int) = n ∧ CostP c ∧ costFault c n i = (0, 0) := by
  unfold costFault at h ⊢
  split at h
  · rename_i h1; rw [if_pos h1]; exact ⟨(costCode_ok h1).1, (costCode_ok h1).2, rfl⟩
  · rename_i h1; exact absurd h h1
theorem costs_any {c : List Int} (h : c.any (fun x => decide (x < 0 ∨ 1000000 < x)) = false) : CostP c := fun i hi => by
  rw [← Bool.not_eq_true, any_iff] at h
  refine Decidable.byContradiction fun hc => h ⟨i, hi, ?_⟩
  simp; omega
theorem costs_any' {c : List Int} (h : c.any (fun x => decide (x < 0 ∨ 1000000 < x)) = true) : ¬ CostP c := fun hp => by
  rw [any_iff] at h
  obtain ⟨i, hi, hx⟩ := h
  have := hp i hi
  simp at hx; omega

/-! ### Relaxation of arcs with weights -/
structure Edge where
  fr : Int
  to : Int
  w : Int
instance : Inhabited Edge := ⟨⟨0, 0, 0⟩⟩
def stepE (d : List Int × Bool) (e : Edge) : List Int × Bool :=
  if nth d.1 e.to < 1000000000 ∧ nth d.1 e.to + e.w < nth d.1 e.fr then (setI d.1 e.fr (nth d.1 e.to + e.w), true) else d
def roundTo (E : List Edge) (d : List Int) : Nat → List Int × Bool
  | 0 => (d, false)
  | k + 1 => stepE (roundTo E d k) (nth E k)
def roundE (E : List Edge) (d : List Int) : List Int × Bool := roundTo E d E.length
def itE (E : List Edge) (d : List Int) : Nat → List Int
  | 0 => d
  | j + 1 => (roundE E (itE E d j)).1
open Classical in
noncomputable def fixE (E : List Edge) (d : List Int) : List Int := if h : ∃ j, (roundE E (itE E d j)).2 = false then itE E d (Classical.choose h) else d
abbrev EdgeOk (n : Nat) (E : List Edge) : Prop := ∀ i : Nat, i < E.length → (0 ≤ (nth E i).fr ∧ (nth E i).fr < n) ∧ (0 ≤ (nth E i).to ∧ (nth E i).to < n) ∧ 0 ≤ (nth E i).w
def GoodD (n : Nat) (d : List Int) : Prop := d.length = n ∧ ∀ x : Int, 0 ≤ x → x < n → 0 ≤ nth d x ∧ nth d x ≤ 1000000000
section
variable {n : Nat} {E : List Edge} (hE : EdgeOk n E)
include hE
theorem stepE_keep {q : List Int → Prop} {d : List Int × Bool} {i : Nat} (hi : i < E.length) (hg : GoodD n d.1) (hq : q d.1)
    (hs : nth d.1 (nth E i).to < 1000000000 → nth d.1 (nth E i).to + (nth E i).w < nth d.1 (nth E i).fr → q (setI d.1 (nth E i).fr (nth d.1 (nth E i).to + (nth E i).w))) :
    GoodD n (stepE d (nth E i)).1 ∧ q (stepE d (nth E i)).1 := by
  unfold stepE
  split
  · rename_i hk
    have he := hE i hi
    refine ⟨⟨by rw [setI_len]; exact hg.1, fun x h0 h1 => ?_⟩, hs hk.1 hk.2⟩
    have h2 := hg.2 _ he.2.1.1 he.2.1.2
    have h3 := hg.2 _ he.1.1 he.1.2
    have h4 := hg.2 x h0 h1
    show 0 ≤ nth (setI d.1 _ _) x ∧ _
    rw [nth_setI h0 (by rw [hg.1]; exact h1) he.1.1]
    split <;> omega
  · exact ⟨hg, hq⟩
theorem roundTo_keep {q : List Int → Prop} {d : List Int} (hg : GoodD n d) (hq : q d)
    (hs : ∀ (d : List Int) (i : Nat), i < E.length → GoodD n d → q d → nth d (nth E i).to < 1000000000 → nth d (nth E i).to + (nth E i).w < nth d (nth E i).fr → q (setI d (nth E i).fr (nth d (nth E i).to + (nth E i).w))) :
    ∀ {k : Nat}, k ≤ E.length → GoodD n (roundTo E d k).1 ∧ q (roundTo E d k).1
  | 0, _ => ⟨hg, hq⟩
  | k + 1, hk => by
    obtain ⟨h1, h2⟩ := roundTo_keep hg hq hs (k := k) (by omega)
    exact stepE_keep hE (by omega) h1 h2 (fun a b => hs _ k (by omega) h1 h2 a b)
theorem itE_keep {q : List Int → Prop} {d : List Int} (hg : GoodD n d) (hq : q d)
    (hs : ∀ (d : List Int) (i : Nat), i < E.length → GoodD n d → q d → nth d (nth E i).to < 1000000000 → nth d (nth E i).to + (nth E i).w < nth d (nth E i).fr → q (setI d (nth E i).fr (nth d (nth E i).to + (nth E i).w))) :
    ∀ j : Nat, GoodD n (itE E d j) ∧ q (itE E d j)
  | 0 => ⟨hg, hq⟩
  | j + 1 => by
    obtain ⟨h1, h2⟩ := itE_keep hg hq hs j
    exact roundTo_keep hE h1 h2 hs (Nat.le_refl _)
theorem itE_good {d : List Int} (hg : GoodD n d) (j : Nat) : GoodD n (itE E d j) := (itE_keep hE (q := fun _ => True) hg trivial (fun _ _ _ _ _ _ _ => trivial) j).1
theorem roundTo_good {d : List Int} (hg : GoodD n d) {k : Nat} (hk : k ≤ E.length) : GoodD n (roundTo E d k).1 := (roundTo_keep hE (q := fun _ => True) hg trivial (fun _ _ _ _ _ _ _ => trivial) hk).1
theorem stepE_down {d0 : List Int} {d : List Int × Bool} {i : Nat} (hi : i < E.length) (hg : GoodD n d.1) (hd : Down d0 d) : Down d0 (stepE d (nth E i)) := by
  unfold stepE
  split
  · rename_i hk
    right
    refine ⟨rfl, ?_⟩
    have he := hE i hi
    have hlt : (nth E i).fr.toNat < d.1.length := by rw [hg.1]; omega
    have h1 : (setI d.1 (nth E i).fr (nth d.1 (nth E i).to + (nth E i).w)).sum < d.1.sum := by
      have h2 := hk.2
      have e : nth d.1 (nth E i).fr = nth d.1 ((nth E i).fr.toNat : Int) := by rw [Int.toNat_of_nonneg he.1.1]
      rw [e, nth_eq hlt] at h2
      simp only [setI]
      rw [sum_set hlt]
      omega
    rcases hd with ⟨_, e⟩ | ⟨_, e⟩
    · rw [← e]; exact h1
    · exact Int.lt_trans h1 e
  · exact hd
theorem roundTo_down {d : List Int} (hg : GoodD n d) : ∀ {k : Nat}, k ≤ E.length → Down d (roundTo E d k)
  | 0, _ => .inl ⟨rfl, rfl⟩
  | k + 1, hk => stepE_down hE (by omega) (roundTo_good hE hg (by omega)) (roundTo_down hg (k := k) (by omega))
omit hE in
theorem sum_goodD {d : List Int} (hg : GoodD n d) : 0 ≤ d.sum := sum_nn fun x hx => by
  obtain ⟨i, hi, rfl⟩ := List.getElem_of_mem hx
  have := (hg.2 i (by omega) (by rw [← hg.1]; omega)).1
  rwa [nth_eq hi] at this
theorem itE_next {d : List Int} (hg : GoodD n d) (j : Nat) : ((roundE E (itE E d j)).2 = false ∧ itE E d (j + 1) = itE E d j) ∨ ((roundE E (itE E d j)).2 = true ∧ (itE E d (j + 1)).sum < (itE E d j).sum) := roundTo_down hE (itE_good hE hg j) (Nat.le_refl _)
omit hE in
theorem itE_stay {d : List Int} {j : Nat} (he : itE E d (j + 1) = itE E d j) : ∀ i, itE E d (j + i) = itE E d j
  | 0 => rfl
  | i + 1 => by
    have ih := itE_stay he i
    show (roundE E (itE E d (j + i))).1 = _
    rw [ih]; exact he
theorem itE_uniq {d : List Int} (hg : GoodD n d) {i j : Nat} (hi : (roundE E (itE E d i)).2 = false) (hj : (roundE E (itE E d j)).2 = false) : itE E d i = itE E d j := by
  have ei : itE E d (i + 1) = itE E d i := by rcases itE_next hE hg i with h | h; exact h.2; rw [h.1] at hi; cases hi
  have ej : itE E d (j + 1) = itE E d j := by rcases itE_next hE hg j with h | h; exact h.2; rw [h.1] at hj; cases hj
  rcases Nat.le_total i j with h | h
  · obtain ⟨k, rfl⟩ := Nat.exists_eq_add_of_le h; exact (itE_stay ei k).symm
  · obtain ⟨k, rfl⟩ := Nat.exists_eq_add_of_le h; exact itE_stay ej k
theorem fixE_of {d : List Int} (hg : GoodD n d) {j : Nat} (hj : (roundE E (itE E d j)).2 = false) : itE E d j = fixE E d := by
  unfold fixE
  rw [dif_pos ⟨j, hj⟩]
  exact itE_uniq hE hg hj (Classical.choose_spec (⟨j, hj⟩ : ∃ j, (roundE E (itE E d j)).2 = false))
theorem fixE_stay {d : List Int} (hg : GoodD n d) {j : Nat} (hj : (roundE E (itE E d j)).2 = false) : itE E d (j + 1) = fixE E d := by
  rw [← fixE_of hE hg hj]
  rcases itE_next hE hg j with h | h
  · exact h.2
  · rw [h.1] at hj; cases hj
theorem fixE_ex {d : List Int} (hg : GoodD n d) : ∃ j, (roundE E (itE E d j)).2 = false := by
  refine Classical.byContradiction fun hc => ?_
  have hall : ∀ j, (roundE E (itE E d j)).2 = true := fun j => by
    cases h : (roundE E (itE E d j)).2 with
    | true => rfl
    | false => exact (hc ⟨j, h⟩).elim
  have hdown : ∀ j : Nat, (itE E d j).sum + j ≤ d.sum := fun j => by
    induction j with
    | zero => simp [itE]
    | succ j ih =>
      rcases itE_next hE hg j with ⟨a, _⟩ | ⟨_, b⟩
      · rw [hall j] at a; cases a
      · omega
  have h1 := hdown (d.sum.toNat + 1)
  have h2 := sum_goodD (itE_good hE hg (d.sum.toNat + 1))
  omega
theorem fixE_good {d : List Int} (hg : GoodD n d) : GoodD n (fixE E d) := by
  obtain ⟨j, hj⟩ := fixE_ex hE hg
  rw [← fixE_of hE hg hj]
  exact itE_good hE hg j
/-- What is consistent and below the start is below the end. -/
theorem fixE_ge {d : List Int} (hg : GoodD n d) {f : Int → Int} (h0 : ∀ x : Int, 0 ≤ x → x < n → f x ≤ nth d x) (h1 : ∀ i : Nat, i < E.length → f (nth E i).fr ≤ f (nth E i).to + (nth E i).w) {x : Int} (hx0 : 0 ≤ x) (hx1 : x < n) : f x ≤ nth (fixE E d) x := by
  obtain ⟨j, hj⟩ := fixE_ex hE hg
  rw [← fixE_of hE hg hj]
  refine (itE_keep hE (q := fun d => ∀ x : Int, 0 ≤ x → x < n → f x ≤ nth d x) hg h0 (fun d i hi hg hq _ _ x h0 h2 => ?_) j).2 x hx0 hx1
  have he := hE i hi
  rw [nth_setI h0 (by rw [hg.1]; exact h2) he.1.1]
  split
  · rename_i e
    subst e
    have := hq _ he.2.1.1 he.2.1.2
    have := h1 i hi
    omega
  · exact hq x h0 h2
theorem fixE_le {d : List Int} (hg : GoodD n d) {x : Int} (hx0 : 0 ≤ x) (hx1 : x < n) : nth (fixE E d) x ≤ nth d x := by
  obtain ⟨j, hj⟩ := fixE_ex hE hg
  rw [← fixE_of hE hg hj]
  refine (itE_keep hE (q := fun d' => ∀ x : Int, 0 ≤ x → x < n → nth d' x ≤ nth d x) hg (fun _ _ _ => Int.le_refl _) (fun d' i hi hg' hq _ hlt x h0 h2 => ?_) j).2 x hx0 hx1
  have he := hE i hi
  rw [nth_setI h0 (by rw [hg'.1]; exact h2) he.1.1]
  split
  · rename_i e
    subst e
    have := hq _ h0 h2
    omega
  · exact hq x h0 h2
omit hE in
theorem stepE_true {d : List Int × Bool} {e : Edge} (h : d.2 = true) : (stepE d e).2 = true := by
  unfold stepE; split
  · rfl
  · exact h
omit hE in
theorem roundTo_flag {d : List Int} : ∀ {k : Nat}, (roundTo E d k).2 = false → roundTo E d k = (d, false) ∧ ∀ i : Nat, i < k → ¬ (nth d (nth E i).to < 1000000000 ∧ nth d (nth E i).to + (nth E i).w < nth d (nth E i).fr)
  | 0, h => ⟨rfl, fun i hi => by omega⟩
  | k + 1, h => by
    have h1 : (roundTo E d k).2 = false := by
      cases hf : (roundTo E d k).2 with
      | false => rfl
      | true => have := stepE_true (e := nth E k) hf; have h' : (stepE (roundTo E d k) (nth E k)).2 = false := h; rw [this] at h'; cases h'
    obtain ⟨a, b⟩ := roundTo_flag h1
    have h2 : (stepE (roundTo E d k) (nth E k)).2 = false := h
    have h3 : ¬ (nth d (nth E k).to < 1000000000 ∧ nth d (nth E k).to + (nth E k).w < nth d (nth E k).fr) := fun hc => by
      rw [a] at h2
      unfold stepE at h2
      rw [if_pos hc] at h2
      cases h2
    refine ⟨?_, fun i hi => ?_⟩
    · show stepE (roundTo E d k) (nth E k) = (d, false)
      rw [a]; unfold stepE; rw [if_neg h3]
    · by_cases hik : i = k
      · subst hik; exact h3
      · exact b i (by omega)
theorem fixE_tri {d : List Int} (hg : GoodD n d) {i : Nat} (hi : i < E.length) : nth (fixE E d) (nth E i).fr ≤ nth (fixE E d) (nth E i).to + (nth E i).w := by
  obtain ⟨j, hj⟩ := fixE_ex hE hg
  have hf := fixE_of hE hg hj
  obtain ⟨_, h2⟩ := roundTo_flag (E := E) hj
  have h3 := h2 i hi
  have he := hE i hi
  have hg2 := fixE_good hE hg
  rw [hf] at h3
  have h4 := hg2.2 _ he.1.1 he.1.2
  have h5 := hg2.2 _ he.2.1.1 he.2.1.2
  omega
/-- Is another round due? -/
def flagE (E : List Edge) (d : List Int) : Nat → Bool
  | 0 => true
  | j + 1 => (roundE E (itE E d j)).2
theorem flagE_lt {d : List Int} (hg : GoodD n d) {j : Nat} (h : flagE E d j = true) : (itE E d (j + 1)).sum.toNat + (if flagE E d (j + 1) = true then 1 else 0) < (itE E d j).sum.toNat + (if flagE E d j = true then 1 else 0) := by
  have h1 := sum_goodD (itE_good hE hg (j + 1))
  have h2 := sum_goodD (itE_good hE hg j)
  rw [if_pos h]
  show _ + (if (roundE E (itE E d j)).2 = true then 1 else 0) < _
  rcases itE_next hE hg j with ⟨a, b⟩ | ⟨a, b⟩
  · rw [a, b]; simp
  · rw [a]; simp; omega
theorem flagE_end {d : List Int} (hg : GoodD n d) {j : Nat} (h : flagE E d j = false) : itE E d j = fixE E d := by
  cases j with
  | zero => cases h
  | succ j => exact fixE_stay hE hg h
end
theorem stepE_1 {d : List Int × Bool} {e : Edge} (h1 : nth d.1 e.to < 1000000000) (h2 : nth d.1 e.to + e.w < nth d.1 e.fr) : stepE d e = (setI d.1 e.fr (nth d.1 e.to + e.w), true) := by unfold stepE; rw [if_pos ⟨h1, h2⟩]
theorem stepE_2 {d : List Int × Bool} {e : Edge} (h : ¬ (nth d.1 e.to < 1000000000 ∧ nth d.1 e.to + e.w < nth d.1 e.fr)) : stepE d e = d := by unfold stepE; rw [if_neg h]
end Go.Eng
end

section
/- Abstractions: the distances of all states, found in two ways. -/


set_option linter.unusedVariables false
set_option linter.unusedSimpArgs false
set_option linter.unusedSectionVars false
namespace Go.Eng
open Go

def nS (a : Abs) : Nat := a.states.toNat
def edgesOf (a : Abs) (c : List Int) : List Edge := a.arcs.map fun r => ⟨r.fr, r.to, nth c r.lab⟩
theorem edgesOf_len {a : Abs} {c : List Int} : (edgesOf a c).length = a.arcs.length := by simp [edgesOf]
theorem edgesOf_at {a : Abs} {c : List Int} {i : Nat} (hi : i < a.arcs.length) : nth (edgesOf a c) i = ⟨(nth a.arcs i).fr, (nth a.arcs i).to, nth c (nth a.arcs i).lab⟩ := by
  rw [nth_eq (by rw [edgesOf_len]; exact hi)]
  simp only [edgesOf, List.getElem_map]
  rw [nth_eq hi]
/-- The costs of all labels are there and in range. -/
abbrev CostFor (a : Abs) (c : List Int) : Prop := (c.length : Int) = a.labels ∧ ∀ i : Nat, i < c.length → 0 ≤ nth c i ∧ nth c i ≤ 1000000
theorem cost_at {a : Abs} {c : List Int} (hc : CostFor a c) {x : Int} (h0 : 0 ≤ x) (h1 : x < a.labels) : 0 ≤ nth c x ∧ nth c x ≤ 1000000 := by
  have := hc.2 x.toNat (by have := hc.1; omega)
  rwa [Int.toNat_of_nonneg h0] at this
theorem nS_eq {a : Abs} (ha : AbsOk a) : (nS a : Int) = a.states ∧ 1 ≤ nS a ∧ nS a ≤ 60 := by
  have := ha.head.1
  unfold nS
  omega
theorem edgesOk {a : Abs} {c : List Int} (ha : AbsOk a) (hc : CostFor a c) : EdgeOk (nS a) (edgesOf a c) := fun i hi => by
  rw [edgesOf_len] at hi
  rw [edgesOf_at hi]
  have h1 := ha.arc i hi
  have h2 := nS_eq ha
  rw [h2.1]
  exact ⟨h1.1, h1.2.2, (cost_at hc h1.2.1.1 h1.2.1.2).1⟩
def initG (a : Abs) : List Int := (List.range (nS a)).map fun (x : Nat) => if (x : Int) ∈ a.goals then 0 else 1000000000
theorem initG_len {a : Abs} : (initG a).length = nS a := by simp [initG]
theorem initG_at {a : Abs} {x : Int} (h0 : 0 ≤ x) (h1 : x < nS a) : nth (initG a) x = if x ∈ a.goals then 0 else 1000000000 := by
  have e : nth (initG a) x = nth (initG a) (x.toNat : Int) := by rw [Int.toNat_of_nonneg h0]
  rw [e, nth_eq (by rw [initG_len]; omega)]
  simp only [initG, List.getElem_map, List.getElem_range, Int.toNat_of_nonneg h0]
theorem initG_good {a : Abs} : GoodD (nS a) (initG a) := ⟨initG_len, fun x h0 h1 => by rw [initG_at h0 h1]; split <;> omega⟩
/-- The distances to the goals. -/
noncomputable def distL (a : Abs) (c : List Int) : List Int := fixE (edgesOf a c) (initG a)

/-! ### The goals, one by one -/
def goalSet (a : Abs) : Nat → List Int
  | 0 => List.replicate (nS a) 1000000000
  | k + 1 => setI (goalSet a k) (nth a.goals k) 0
theorem goalSet_len {a : Abs} : ∀ {k : Nat}, (goalSet a k).length = nS a
  | 0 => by simp [goalSet]
  | k + 1 => by simp only [goalSet, setI_len]; exact goalSet_len
theorem goalSet_at {a : Abs} (hg : SetP a.states a.goals) {x : Int} (h0 : 0 ≤ x) (h1 : x < nS a) : ∀ {k : Nat}, k ≤ a.goals.length → nth (goalSet a k) x = if ∃ i : Nat, i < k ∧ nth a.goals i = x then 0 else 1000000000
  | 0, _ => by
    have e : nth (goalSet a 0) x = nth (goalSet a 0) (x.toNat : Int) := by rw [Int.toNat_of_nonneg h0]
    rw [e, nth_eq (by rw [goalSet_len]; omega)]
    simp [goalSet]
  | k + 1, hk => by
    have ih := goalSet_at hg h0 h1 (k := k) (by omega)
    have hk' := hg k (by omega)
    simp only [goalSet]
    rw [nth_setI h0 (by rw [goalSet_len]; exact h1) hk'.1, ih]
    by_cases hx : x = nth a.goals k
    · rw [if_pos hx, if_pos ⟨k, by omega, hx.symm⟩]
    · rw [if_neg hx]
      by_cases he : ∃ i : Nat, i < k ∧ nth a.goals i = x
      · obtain ⟨i, h2, h3⟩ := he
        rw [if_pos ⟨i, h2, h3⟩, if_pos ⟨i, by omega, h3⟩]
      · rw [if_neg he, if_neg (fun ⟨i, h2, h3⟩ => by
          by_cases hik : i = k
          · subst hik; exact hx h3.symm
          · exact he ⟨i, by omega, h3⟩)]
theorem mem_nth {l : List Int} {x : Int} : x ∈ l ↔ ∃ i : Nat, i < l.length ∧ nth l i = x := by
  constructor
  · intro h
    obtain ⟨i, hi, rfl⟩ := List.getElem_of_mem h
    exact ⟨i, hi, nth_eq hi⟩
  · rintro ⟨i, hi, rfl⟩
    exact nth_mem (by omega) (by omega)
theorem goalSet_end {a : Abs} (hg : SetP a.states a.goals) : goalSet a a.goals.length = initG a := ext_get (by rw [goalSet_len, initG_len]) fun i hi => by
  rw [goalSet_len] at hi
  rw [goalSet_at hg (by omega) (by omega) (Nat.le_refl _), initG_at (by omega) (by omega)]
  by_cases h : (i : Int) ∈ a.goals
  · rw [if_pos h, if_pos (mem_nth.1 h)]
  · rw [if_neg h, if_neg (fun hn => h (mem_nth.2 hn))]

/-! ### The nearest state is settled first -/
def fillD (a : Abs) (k : Nat) : List Int := (List.range (nS a)).map fun (x : Nat) => if x < k then (if (x : Int) ∈ a.goals then 0 else 1000000000) else 0
def bestD (d : List Int) (s : List Bool) : Nat → Int
  | 0 => -1
  | k + 1 => if nth s k = false ∧ nth d k < 1000000000 ∧ (bestD d s k < 0 ∨ nth d k < nth d (bestD d s k)) then k else bestD d s k
def relaxTo (a : Abs) (c : List Int) (b : Int) (d : List Int) : Nat → List Int
  | 0 => d
  | i + 1 => if (nth a.arcs i).to = b then setI (relaxTo a c b d i) (nth a.arcs i).fr (min (nth (relaxTo a c b d i) (nth a.arcs i).fr) (nth (relaxTo a c b d i) b + nth c (nth a.arcs i).lab)) else relaxTo a c b d i
section
variable {a : Abs} {c : List Int} (ha : AbsOk a) (hc : CostFor a c)
include ha hc
theorem distL_good : GoodD (nS a) (distL a c) := fixE_good (edgesOk ha hc) initG_good
theorem distL_tri {i : Nat} (hi : i < a.arcs.length) : nth (distL a c) (nth a.arcs i).fr ≤ nth (distL a c) (nth a.arcs i).to + nth c (nth a.arcs i).lab := by
  have := fixE_tri (edgesOk ha hc) initG_good (i := i) (by rw [edgesOf_len]; exact hi)
  rwa [edgesOf_at hi] at this
end
/-- Between two rounds. -/
structure DInv (a : Abs) (c : List Int) (d : List Int) (s : List Bool) : Prop where
  good : GoodD (nS a) d
  sl : s.length = nS a
  le0 : ∀ x : Int, 0 ≤ x → x < nS a → nth d x ≤ nth (initG a) x
  ge : ∀ x : Int, 0 ≤ x → x < nS a → nth (distL a c) x ≤ nth d x
  ord : ∀ x y : Int, 0 ≤ x → x < nS a → 0 ≤ y → y < nS a → nth s x = true → nth s y = false → nth d x ≤ nth d y
  rel : ∀ i : Nat, i < a.arcs.length → nth s (nth a.arcs i).to = true → nth d (nth a.arcs i).fr ≤ nth d (nth a.arcs i).to + nth c (nth a.arcs i).lab
def openN (s : List Bool) : Nat := (s.filter fun b => !b).length
def repTo (c : Int) (n k : Nat) : List Int := List.replicate k c ++ List.replicate (n - k) 0
theorem repTo_len {c : Int} {n k : Nat} (h : k ≤ n) : (repTo c n k).length = n := by simp [repTo]; omega
theorem repTo_end {c : Int} {n : Nat} : repTo c n n = List.replicate n c := by simp [repTo]
theorem repTo_s {c : Int} {n k m : Nat} (h : k + m ≤ n) (hm : m ≤ k) : (repTo c n k).take k ++ (repTo c n k).take m ++ (repTo c n k).drop (k + m) = repTo c n (k + m) := by
  unfold repTo
  have e1 : (List.replicate k c ++ List.replicate (n - k) (0 : Int)).take k = List.replicate k c := by simp
  have e2 : (List.replicate k c ++ List.replicate (n - k) (0 : Int)).take m = List.replicate m c := by
    rw [List.take_append_of_le_length (by simpa using hm)]
    simp [Nat.min_eq_left hm]
  have e3 : (List.replicate k c ++ List.replicate (n - k) (0 : Int)).drop (k + m) = List.replicate (n - (k + m)) 0 := by
    rw [List.drop_append]
    simp
    omega
  rw [e1, e2, e3, List.replicate_append_replicate]
theorem wrap_pred {n : Int} (hr : -9223372036854775808 ≤ n ∧ n ≤ 9223372036854775807) : 0 ≤ IntKind.i64.wrap (n - 1) ∧ IntKind.i64.wrap (n - 1) < 60 ↔ 1 ≤ n ∧ n ≤ 60 := by
  by_cases h : -9223372036854775808 ≤ n - 1
  · rw [wrap_i64 h (by omega)]; omega
  · have : n = -9223372036854775808 := by omega
    subst this
    have e : IntKind.i64.wrap (-9223372036854775808 - 1) = 9223372036854775807 := by decide
    rw [e]; omega
theorem Le.uu {b c : Int} (h : b = c) : Le (U b) (U c) := h ▸ .refl _
section
variable {a : Abs} {c : List Int} (ha : AbsOk a) (hc : CostFor a c)
include ha hc
theorem distL_goal {x : Int} (h0 : 0 ≤ x) (h1 : x < nS a) (hg : x ∈ a.goals) : nth (distL a c) x = 0 := by
  have h2 := fixE_le (edgesOk ha hc) initG_good h0 h1
  rw [initG_at h0 h1, if_pos hg] at h2
  have h3 := (distL_good ha hc).2 x h0 h1
  have h4 : nth (distL a c) x ≤ 0 := h2
  omega
/-- What is consistent is at most the distance. -/
theorem distL_ge {f : Int → Int} (h1 : ∀ x : Int, 0 ≤ x → x < nS a → f x ≤ 1000000000) (h2 : ∀ x : Int, 0 ≤ x → x < nS a → x ∈ a.goals → f x ≤ 0) (h3 : ∀ i : Nat, i < a.arcs.length → f (nth a.arcs i).fr ≤ f (nth a.arcs i).to + nth c (nth a.arcs i).lab) {x : Int} (hx0 : 0 ≤ x) (hx1 : x < nS a) : f x ≤ nth (distL a c) x := by
  refine fixE_ge (edgesOk ha hc) initG_good (f := f) (fun x h0 h4 => ?_) (fun i hi => ?_) hx0 hx1
  · rw [initG_at h0 h4]
    split
    · rename_i hg; exact h2 x h0 h4 hg
    · exact h1 x h0 h4
  · rw [edgesOf_len] at hi
    rw [edgesOf_at hi]
    exact h3 i hi
end
end Go.Eng
end

section
/- The abstraction of one variable: what is computed. -/

set_option linter.unusedVariables false
set_option linter.unusedSimpArgs false
set_option linter.unusedSectionVars false
namespace Go.Eng
open Go
/-- The value that a list assigns to a variable, or another one. -/
def findA (l : List Asg) (v other : Int) : Int := ((l.find? fun x => decide (x.1 = v)).map (·.2)).getD other
theorem findA_some {l : List Asg} {v other : Int} {k : Nat} (hk : k < l.length) (h : ∀ j : Nat, j < k → (nth l j).1 ≠ v) (hp : (nth l k).1 = v) : (nth l k).2 = findA l v other := by
  unfold findA
  have h1 : l.find? (fun x => decide (x.1 = v)) = some l[k] := by
    rw [List.find?_eq_some_iff_getElem]
    refine ⟨by rw [← nth_eq hk]; simpa using hp, k, hk, rfl, fun j hj => ?_⟩
    have := h j hj
    rw [nth_eq (by omega)] at this
    simp [this]
  rw [h1, nth_eq hk]; rfl
theorem findA_none {l : List Asg} {v other : Int} (h : ∀ j : Nat, j < l.length → (nth l j).1 ≠ v) : other = findA l v other := by
  unfold findA
  have h1 : l.find? (fun x => decide (x.1 = v)) = none := by
    rw [List.find?_eq_none]
    intro x hx
    obtain ⟨i, hi, rfl⟩ := List.getElem_of_mem hx
    have := h i hi
    rw [nth_eq hi] at this
    simp [this]
  rw [h1]; rfl
def goalsTo (m : Multi) (v : Int) : Nat → List Int
  | 0 => []
  | k + 1 => if findA m.goal v k = k then goalsTo m v k ++ [(k : Int)] else goalsTo m v k
def arcsIn (m : Multi) (v x : Int) : Nat → List Arc
  | 0 => []
  | j + 1 => if findA (nth m.ops j).pre v x = x then arcsIn m v x j ++ [⟨x, j, findA (nth m.ops j).post v x⟩] else arcsIn m v x j
def arcsTo (m : Multi) (v : Int) : Nat → List Arc
  | 0 => []
  | k + 1 => arcsTo m v k ++ arcsIn m v k m.ops.length
theorem goalsTo_t {m : Multi} {v : Int} {k : Nat} (h : findA m.goal v k = k) : goalsTo m v (k + 1) = goalsTo m v k ++ [(k : Int)] := by simp only [goalsTo]; rw [if_pos h]
theorem goalsTo_f {m : Multi} {v : Int} {k : Nat} (h : ¬ findA m.goal v k = k) : goalsTo m v (k + 1) = goalsTo m v k := by simp only [goalsTo]; rw [if_neg h]
theorem goalsTo_len {m : Multi} {v : Int} : ∀ {k : Nat}, (goalsTo m v k).length ≤ k
  | 0 => by simp [goalsTo]
  | k + 1 => by
    have := goalsTo_len (m := m) (v := v) (k := k)
    simp only [goalsTo]; split
    · simp; omega
    · omega
theorem arcsIn_t {m : Multi} {v x : Int} {j : Nat} (h : findA (nth m.ops j).pre v x = x) : arcsIn m v x (j + 1) = arcsIn m v x j ++ [⟨x, j, findA (nth m.ops j).post v x⟩] := by simp only [arcsIn]; rw [if_pos h]
theorem arcsIn_f {m : Multi} {v x : Int} {j : Nat} (h : ¬ findA (nth m.ops j).pre v x = x) : arcsIn m v x (j + 1) = arcsIn m v x j := by simp only [arcsIn]; rw [if_neg h]
theorem arcsIn_len {m : Multi} {v x : Int} : ∀ {j : Nat}, (arcsIn m v x j).length ≤ j
  | 0 => by simp [arcsIn]
  | j + 1 => by
    have := arcsIn_len (m := m) (v := v) (x := x) (j := j)
    simp only [arcsIn]; split
    · simp; omega
    · omega
theorem arcsTo_len {m : Multi} {v : Int} : ∀ {k : Nat}, (arcsTo m v k).length ≤ k * m.ops.length
  | 0 => by simp [arcsTo]
  | k + 1 => by
    have := arcsTo_len (m := m) (v := v) (k := k)
    have := arcsIn_len (m := m) (v := v) (x := k) (j := m.ops.length)
    simp only [arcsTo, List.length_append, Nat.succ_mul]; omega
def atomA (m : Multi) (v : Int) : Abs := ⟨nth m.sizes v, m.ops.length, arcsTo m v (nth m.sizes v).toNat, nth m.init v, goalsTo m v (nth m.sizes v).toNat⟩
def atomF (m : Multi) (v : Int) : Int × Int := if validate m = (0, 0) then (if v < 0 ∨ m.sizes.length ≤ v then (3, -8) else (0, 0)) else validate m
def absZ : Abs := ⟨0, 0, [], 0, []⟩
def atomR (m : Multi) (v : Int) : Abs := if atomF m v = (0, 0) then atomA m v else absZ
theorem atomF_1 {m : Multi} {v : Int} (h : validate m ≠ (0, 0)) : atomF m v = validate m ∧ atomR m v = absZ := by
  have h1 : atomF m v = validate m := by unfold atomF; rw [if_neg h]
  exact ⟨h1, by unfold atomR; rw [h1, if_neg h]⟩
theorem atomF_2 {m : Multi} {v : Int} (h : validate m = (0, 0)) (h1 : v < 0 ∨ m.sizes.length ≤ v) : atomF m v = (3, -8) ∧ atomR m v = absZ := by
  have h2 : atomF m v = (3, -8) := by unfold atomF; rw [if_pos h, if_pos h1]
  exact ⟨h2, by unfold atomR; rw [h2, if_neg (by decide)]⟩
theorem atomF_0 {m : Multi} {v : Int} (h : validate m = (0, 0)) (h1 : ¬ (v < 0 ∨ m.sizes.length ≤ v)) : atomF m v = (0, 0) ∧ atomR m v = atomA m v := by
  have h2 : atomF m v = (0, 0) := by unfold atomF; rw [if_pos h, if_neg h1]
  exact ⟨h2, by unfold atomR; rw [if_pos h2]⟩
/-! ### Distances of an abstraction, with their fault -/
def adF (a : Abs) (c : List Int) : Int × Int := if absFault a = (0, 0) then costFault c a.labels (-4) else absFault a
noncomputable def adR (a : Abs) (c : List Int) : List Int := if adF a c = (0, 0) then distL a c else []
theorem adF_1 {a : Abs} {c : List Int} (h : absFault a = (0, 0)) : costFault c a.labels (-4) = adF a c := by unfold adF; rw [if_pos h]
theorem adF_2 {a : Abs} {c : List Int} (h : absFault a ≠ (0, 0)) : absFault a = adF a c := by unfold adF; rw [if_neg h]
theorem adR_1 {a : Abs} {c : List Int} (h : adF a c ≠ (0, 0)) : adR a c = [] := by unfold adR; rw [if_neg h]
theorem adR_0 {a : Abs} {c : List Int} (h : adF a c = (0, 0)) : adR a c = distL a c := by unfold adR; rw [if_pos h]
theorem adF_ok {a : Abs} {c : List Int} (h : (adF a c).1 = 0) : AbsOk a ∧ CostFor a c ∧ adF a c = (0, 0) ∧ absFault a = (0, 0) := by
  unfold adF at h ⊢
  split at h
  · rename_i h1
    rw [if_pos h1]
    obtain ⟨c1, c2, c3⟩ := costFault_ok' h
    exact ⟨(absFault_ok (by rw [h1])).1, ⟨c1, c2⟩, c3, h1⟩
  · rename_i h1
    exact absurd (absFault_ok h).2 h1
open Classical in
noncomputable def tightTo (a : Abs) (c : List Int) (x : Int) (i : Nat) : Bool := decide (∃ j : Nat, j < i ∧ (nth a.arcs j).fr = x ∧ nth (distL a c) (nth a.arcs j).to < 1000000000 ∧ nth (distL a c) x = nth (distL a c) (nth a.arcs j).to + nth c (nth a.arcs j).lab)
theorem ex_atomF : atomF lampsM 0 = (0, 0) := by decide +kernel
theorem ex_atom : atomR lampsM 0 = ⟨2, 2, [⟨0, 0, 1⟩, ⟨0, 1, 0⟩, ⟨1, 0, 1⟩, ⟨1, 1, 1⟩], 0, [1]⟩ := by decide +kernel
theorem ex_adF : adF (atomR lampsM 0) [2, 3] = (0, 0) := by decide +kernel
theorem ex_ad : adR (atomR lampsM 0) [2, 3] = [2, 0] := by
  obtain ⟨h1, h2, _, _⟩ := adF_ok (a := atomR lampsM 0) (c := [2, 3]) (by rw [ex_adF])
  rw [adR_0 ex_adF]
  unfold distL
  rw [← fixE_of (edgesOk h1 h2) initG_good (j := 2) (by decide +kernel)]
  decide +kernel
end Go.Eng
end
