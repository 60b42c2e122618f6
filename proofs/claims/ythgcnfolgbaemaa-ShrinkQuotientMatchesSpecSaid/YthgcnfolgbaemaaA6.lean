/- The engine and the walks that this claim uses, part 6. Written by prune.py out of our own texts. -/
import Derived.Test.YthgcnfolgbaemaaA5
section
/- Quotients of abstractions; bisimulations and distances. -/


set_option linter.unusedVariables false
set_option linter.unusedSimpArgs false
set_option linter.unusedSectionVars false
namespace Go.Eng
open Go
/-! ### Partitions -/
def topTo (p : List Int) : Nat → Int
  | 0 => 0
  | k + 1 => max (topTo p k) (nth p k + 1)
def PartP (p : List Int) : Prop := ∀ k : Nat, k < p.length → 0 ≤ nth p k ∧ nth p k ≤ topTo p k
instance {p : List Int} : Decidable (PartP p) := by unfold PartP; exact inferInstance
theorem topTo_nn {p : List Int} : ∀ {k : Nat}, 0 ≤ topTo p k
  | 0 => Int.le_refl _
  | k + 1 => by have := topTo_nn (p := p) (k := k); simp only [topTo]; omega
theorem topTo_ge {p : List Int} {i : Nat} : ∀ {k : Nat}, i < k → nth p i + 1 ≤ topTo p k
  | 0, h => by omega
  | k + 1, h => by
    simp only [topTo]
    by_cases e : i = k
    · subst e; omega
    · have := topTo_ge (p := p) (i := i) (k := k) (by omega); omega
theorem topTo_le {p : List Int} (h : PartP p) : ∀ {k : Nat}, k ≤ p.length → topTo p k ≤ k
  | 0, _ => by simp [topTo]
  | k + 1, hk => by
    have := topTo_le h (k := k) (by omega)
    have := h k (by omega)
    simp only [topTo]; omega
theorem topTo_ex {p : List Int} (h : PartP p) {q : Int} (h0 : 0 ≤ q) : ∀ {k : Nat}, k ≤ p.length → q < topTo p k → ∃ i : Nat, i < k ∧ nth p i = q
  | 0, _, hq => by simp only [topTo] at hq; omega
  | k + 1, hk, hq => by
    simp only [topTo] at hq
    by_cases h1 : q < topTo p k
    · obtain ⟨i, hi, he⟩ := topTo_ex h h0 (k := k) (by omega) h1
      exact ⟨i, by omega, he⟩
    · have := h k (by omega)
      exact ⟨k, by omega, by omega⟩
/-! ### The quotient -/
def qArcTo (a : Abs) (p : List Int) (k : Nat) : List Arc := (a.arcs.take k).map fun (r : Arc) => ⟨nth p r.fr, r.lab, nth p r.to⟩
def qGoTo (a : Abs) (p : List Int) (k : Nat) : List Int := (a.goals.take k).map fun g => nth p g
def quoA (a : Abs) (p : List Int) : Abs := ⟨topTo p p.length, a.labels, dd (sortL (qArcTo a p a.arcs.length)), nth p a.init, dd (sortI (qGoTo a p a.goals.length))⟩
def quoF (a : Abs) (p : List Int) : Int × Int := if absFault a ≠ (0, 0) then absFault a else if (p.length : Int) ≠ a.states then (9, -4) else if ¬ PartP p then (5, -4) else (0, 0)
def quoR (a : Abs) (p : List Int) : Abs := if quoF a p = (0, 0) then quoA a p else absZ
theorem quoR_0 {a : Abs} {p : List Int} (h : quoF a p = (0, 0)) : quoR a p = quoA a p := by unfold quoR; rw [if_pos h]
theorem quoR_1 {a : Abs} {p : List Int} (h : quoF a p ≠ (0, 0)) : quoR a p = absZ := by unfold quoR; rw [if_neg h]
theorem quoF_inv {a : Abs} {p : List Int} (h : quoF a p = (0, 0)) : AbsOk a ∧ (p.length : Int) = a.states ∧ PartP p := by
  unfold quoF at h
  by_cases h1 : absFault a = (0, 0)
  · rw [if_neg (fun hn => hn h1)] at h
    by_cases h2 : (p.length : Int) = a.states
    · rw [if_neg (fun hn => hn h2)] at h
      by_cases h3 : PartP p
      · exact ⟨(absFault_ok (congrArg Prod.fst h1)).1, h2, h3⟩
      · rw [if_pos h3] at h; simp at h
    · rw [if_pos h2] at h; simp at h
  · rw [if_pos h1] at h; exact absurd h h1
theorem quoF_of {a : Abs} {p : List Int} (h1 : AbsOk a) (h2 : (p.length : Int) = a.states) (h3 : PartP p) : quoF a p = (0, 0) := by
  unfold quoF
  rw [if_neg (fun hn => hn (absFault_of h1)), if_neg (fun hn => hn h2), if_neg (fun hn => hn h3)]
theorem quoF_code {a : Abs} {p : List Int} (h : (quoF a p).1 = 0) : quoF a p = (0, 0) := by
  unfold quoF at h ⊢
  by_cases h1 : absFault a = (0, 0)
  · rw [if_neg (fun hn => hn h1)] at h ⊢
    by_cases h2 : (p.length : Int) = a.states
    · rw [if_neg (fun hn => hn h2)] at h ⊢
      by_cases h3 : PartP p
      · rw [if_neg (fun hn => hn h3)]
      · rw [if_pos h3] at h; simp at h
    · rw [if_pos h2] at h; simp at h
  · rw [if_pos h1] at h; exact absurd (absFault_ok h).2 h1
theorem quoF_1 {a : Abs} {p : List Int} (h : absFault a ≠ (0, 0)) : absFault a = quoF a p := by unfold quoF; rw [if_pos h]
theorem quoF_2 {a : Abs} {p : List Int} (h : absFault a = (0, 0)) (h2 : (p.length : Int) ≠ a.states) : (9, -4) = quoF a p := by unfold quoF; rw [if_neg (fun hn => hn h), if_pos h2]
theorem quoF_3 {a : Abs} {p : List Int} (h : absFault a = (0, 0)) (h2 : (p.length : Int) = a.states) (h3 : ¬ PartP p) : (5, -4) = quoF a p := by unfold quoF; rw [if_neg (fun hn => hn h), if_neg (fun hn => hn h2), if_pos h3]
theorem qArc_len {a : Abs} {p : List Int} {k : Nat} (hk : k ≤ a.arcs.length) : (qArcTo a p k).length = k := by simp [qArcTo]; omega
theorem qGo_len {a : Abs} {p : List Int} {k : Nat} (hk : k ≤ a.goals.length) : (qGoTo a p k).length = k := by simp [qGoTo]; omega
theorem qArc_s {a : Abs} {p : List Int} {k : Nat} (hk : k < a.arcs.length) : qArcTo a p (k + 1) = qArcTo a p k ++ [⟨nth p (nth a.arcs k).fr, (nth a.arcs k).lab, nth p (nth a.arcs k).to⟩] := by
  unfold qArcTo; rw [tk_s hk]; simp
theorem qGo_s {a : Abs} {p : List Int} {k : Nat} (hk : k < a.goals.length) : qGoTo a p (k + 1) = qGoTo a p k ++ [nth p (nth a.goals k)] := by
  unfold qGoTo; rw [tk_s hk]; simp
theorem quo_arc {a : Abs} {p : List Int} {z : Arc} : z ∈ (quoA a p).arcs ↔ ∃ r, r ∈ a.arcs ∧ z = ⟨nth p r.fr, r.lab, nth p r.to⟩ := by
  show z ∈ dd (sortL (qArcTo a p a.arcs.length)) ↔ _
  rw [sd_mem]
  unfold qArcTo
  rw [List.take_length, List.mem_map]
  exact ⟨fun ⟨r, h1, h2⟩ => ⟨r, h1, h2.symm⟩, fun ⟨r, h1, h2⟩ => ⟨r, h1, h2.symm⟩⟩
theorem quo_goal {a : Abs} {p : List Int} {z : Int} : z ∈ (quoA a p).goals ↔ ∃ g, g ∈ a.goals ∧ z = nth p g := by
  show z ∈ dd (sortI (qGoTo a p a.goals.length)) ↔ _
  rw [dd_mem, sortI_mem]
  unfold qGoTo
  rw [List.take_length, List.mem_map]
  exact ⟨fun ⟨r, h1, h2⟩ => ⟨r, h1, h2.symm⟩, fun ⟨r, h1, h2⟩ => ⟨r, h1, h2.symm⟩⟩
theorem dd_strictI {l : List Int} (h : l.Pairwise (· ≤ ·)) : (dd l).Pairwise (· < ·) := by
  have hp : ∀ i j : Nat, i < j → j < l.length → nth l i ≤ nth l j := fun i j hij hj => by
    rw [nth_eq hj, nth_eq (by omega)]
    exact List.pairwise_iff_getElem.1 h i j (by omega) hj hij
  have key : ∀ k : Nat, k ≤ l.length → (ddTo l k).Pairwise (· < ·) := by
    intro k
    induction k with
    | zero => intro _; simp [ddTo]
    | succ k ih =>
      intro hk
      have ih := ih (by omega)
      simp only [ddTo]
      split
      · exact ih
      · rename_i hne
        rw [List.pairwise_append]
        refine ⟨ih, by simp, fun y hy z hz => ?_⟩
        rw [List.mem_singleton] at hz
        subst hz
        rw [ddTo_mem (by omega)] at hy
        obtain ⟨i, hi, rfl⟩ := List.getElem_of_mem hy
        rw [List.length_take] at hi
        have e : (l.take k)[i] = nth l i := by rw [List.getElem_take, nth_eq (by omega)]
        rw [e]
        have h0 : 0 < k := by omega
        have hn : nth l k ≠ nth l (k - 1 : Int) := fun he => hne ⟨h0, he⟩
        have e1 : ((k : Int) - 1) = ((k - 1 : Nat) : Int) := by omega
        rw [e1] at hn
        have l1 := hp (k - 1) k (by omega) (by omega)
        by_cases hik : i = k - 1
        · rw [hik]; omega
        · have l2 := hp i (k - 1) (by omega) (by omega); omega
  exact key _ (Nat.le_refl _)
theorem quo_goals_sorted {a : Abs} {p : List Int} : (quoA a p).goals.Pairwise (· < ·) := dd_strictI sortI_sorted
theorem quo_st {a : Abs} {p : List Int} (h : quoF a p = (0, 0)) : 1 ≤ (quoA a p).states ∧ (quoA a p).states ≤ a.states := by
  obtain ⟨ha, hl, hp⟩ := quoF_inv h
  have hst := ha.head.1
  have h1 := topTo_le hp (k := p.length) (Nat.le_refl _)
  have h2 := topTo_ge (p := p) (i := 0) (k := p.length) (by omega)
  have h3 := (hp 0 (by omega)).1
  show 1 ≤ topTo p p.length ∧ topTo p p.length ≤ a.states
  omega
/-- The part of a state. -/
theorem part_in {a : Abs} {p : List Int} (h : quoF a p = (0, 0)) {x : Int} (h0 : 0 ≤ x) (h1 : x < a.states) : 0 ≤ nth p x ∧ nth p x < (quoA a p).states := by
  obtain ⟨ha, hl, hp⟩ := quoF_inv h
  obtain ⟨i, rfl⟩ := Int.eq_ofNat_of_zero_le h0
  have h2 := hp i (by omega)
  have h3 := topTo_ge (p := p) (i := i) (k := p.length) (by omega)
  show _ ∧ _ < topTo p p.length
  omega
theorem quo_ok {a : Abs} {p : List Int} (h : quoF a p = (0, 0)) : AbsOk (quoA a p) := by
  obtain ⟨ha, hl, hp⟩ := quoF_inv h
  have hst := quo_st h
  have hh := ha.head
  refine absOk_of ⟨by omega, hh.2.1, part_in h hh.2.2.1 hh.2.2.2⟩ quo_goals_sorted (fun z hz => ?_) ?_ sd_strict fun z hz => ?_
  · obtain ⟨g, hg, rfl⟩ := quo_goal.1 hz
    have := setP_mem ha.goals hg
    exact part_in h this.1 this.2
  · have h1 := sd_len (l := qArcTo a p a.arcs.length)
    rw [qArc_len (Nat.le_refl _)] at h1
    have := ha.len
    show (dd (sortL (qArcTo a p a.arcs.length))).length ≤ 400
    omega
  · obtain ⟨r, hr, rfl⟩ := quo_arc.1 hz
    have h1 := mem_in ha hr
    exact ⟨part_in h h1.1.1 h1.1.2, h1.2.1, part_in h h1.2.2.1 h1.2.2.2⟩
theorem quo_cost {a : Abs} {p c : List Int} (hc : CostFor a c) : CostFor (quoA a p) c := hc
/-! ### Distances under a map of states -/
theorem map_le {a b : Abs} {c : List Int} (ha : AbsOk a) (hb : AbsOk b) (hca : CostFor a c) (hcb : CostFor b c) {f : Int → Int} (hf : ∀ x : Int, 0 ≤ x → x < a.states → 0 ≤ f x ∧ f x < b.states)
    (hg : ∀ x, x ∈ a.goals → f x ∈ b.goals) (hr : ∀ r, r ∈ a.arcs → (⟨f r.fr, r.lab, f r.to⟩ : Arc) ∈ b.arcs) {x : Int} (h0 : 0 ≤ x) (h1 : x < a.states) : nth (distL b c) (f x) ≤ nth (distL a c) x := by
  have na := nS_eq ha
  have nb := nS_eq hb
  refine distL_ge ha hca (f := fun x => nth (distL b c) (f x)) (fun x q0 q1 => ?_) (fun x q0 q1 hx => ?_) (fun i hi => ?_) h0 (by omega)
  · have := hf x q0 (by omega)
    exact ((distL_good hb hcb).2 _ this.1 (by omega)).2
  · have := hf x q0 (by omega)
    exact Int.le_of_eq (distL_goal hb hcb this.1 (by omega) (hg x hx))
  · have := tri_mem hb hcb (hr _ (nth_mem (l := a.arcs) (n := i) (by omega) (by omega)))
    exact this
def mxL (l : List Int) : Int := l.foldr max 0
theorem mxL_ge : ∀ {l : List Int} {x : Int}, x ∈ l → x ≤ mxL l
  | y :: l, x, h => by
    simp only [mxL, List.foldr_cons]
    rcases List.mem_cons.1 h with rfl | h
    · omega
    · have := mxL_ge h; unfold mxL at this; omega
theorem mxL_at : ∀ {l : List Int}, mxL l = 0 ∨ mxL l ∈ l
  | [] => .inl rfl
  | y :: l => by
    simp only [mxL, List.foldr_cons]
    rcases mxL_at (l := l) with h | h <;> unfold mxL at h
    · rcases Int.le_total y 0 with hy | hy
      · left; rw [h]; omega
      · right; rw [h, Int.max_eq_left hy]; simp
    · rcases Int.le_total y (l.foldr max 0) with hy | hy
      · right; rw [Int.max_eq_right hy]; exact List.mem_cons_of_mem _ h
      · right; rw [Int.max_eq_left hy]; simp
theorem mxL_nn : ∀ {l : List Int}, 0 ≤ mxL l
  | [] => Int.le_refl _
  | y :: l => by have := mxL_nn (l := l); unfold mxL at *; simp only [List.foldr_cons]; omega
/-- A map that is a bisimulation keeps distances. -/
theorem map_eq {a b : Abs} {c : List Int} (ha : AbsOk a) (hb : AbsOk b) (hca : CostFor a c) (hcb : CostFor b c) {f : Int → Int} (hf : ∀ x : Int, 0 ≤ x → x < a.states → 0 ≤ f x ∧ f x < b.states)
    (hg : ∀ x : Int, 0 ≤ x → x < a.states → (x ∈ a.goals ↔ f x ∈ b.goals)) (hr : ∀ r, r ∈ a.arcs → (⟨f r.fr, r.lab, f r.to⟩ : Arc) ∈ b.arcs)
    (hz : ∀ z, z ∈ b.arcs → ∀ x : Int, 0 ≤ x → x < a.states → f x = z.fr → ∃ r, r ∈ a.arcs ∧ r.fr = x ∧ r.lab = z.lab ∧ f r.to = z.to) {x : Int} (h0 : 0 ≤ x) (h1 : x < a.states) : nth (distL b c) (f x) = nth (distL a c) x := by
  have na := nS_eq ha
  have nb := nS_eq hb
  have hle := map_le ha hb hca hcb hf (fun x hx => (hg x (setP_mem ha.goals hx).1 (setP_mem ha.goals hx).2).1 hx) hr h0 h1
  refine Int.le_antisymm hle ?_
  let g : Int → Int := fun q => mxL (((List.range (nS a)).filter fun (x : Nat) => decide (f x = q)).map fun (x : Nat) => nth (distL a c) x)
  have gge : ∀ x : Int, 0 ≤ x → x < a.states → nth (distL a c) x ≤ g (f x) := fun x q0 q1 => by
    obtain ⟨i, rfl⟩ := Int.eq_ofNat_of_zero_le q0
    exact mxL_ge (List.mem_map.2 ⟨i, List.mem_filter.2 ⟨List.mem_range.2 (by omega), by simp⟩, rfl⟩)
  have gat : ∀ q, g q = 0 ∨ ∃ x : Int, 0 ≤ x ∧ x < a.states ∧ f x = q ∧ g q = nth (distL a c) x := fun q => by
    rcases mxL_at (l := ((List.range (nS a)).filter fun (x : Nat) => decide (f x = q)).map fun (x : Nat) => nth (distL a c) x) with h | h
    · exact .inl h
    · obtain ⟨i, hi, he⟩ := List.mem_map.1 h
      rw [List.mem_filter, List.mem_range] at hi
      exact .inr ⟨i, by omega, by omega, by simpa using hi.2, he.symm⟩
  have key := distL_ge hb hcb (f := g) (fun q q0 q1 => ?_) (fun q q0 q1 hq => ?_) (fun i hi => ?_) (hf x h0 h1).1 (by have := (hf x h0 h1).2; omega)
  · exact Int.le_trans (gge x h0 h1) key
  · rcases gat q with h | ⟨x, x0, x1, _, h⟩
    · omega
    · rw [h]; exact ((distL_good ha hca).2 x x0 (by omega)).2
  · rcases gat q with h | ⟨x, x0, x1, hx, h⟩
    · omega
    · rw [h]
      exact Int.le_of_eq (distL_goal ha hca x0 (by omega) ((hg x x0 x1).2 (hx ▸ hq)))
  · have hm := nth_mem (l := b.arcs) (n := i) (by omega) (by omega)
    have hc0 := cost_at hcb (hb.arc i hi).2.1.1 (hb.arc i hi).2.1.2
    rcases gat (nth b.arcs i).fr with h | ⟨x, x0, x1, hx, h⟩
    · have : 0 ≤ g (nth b.arcs i).to := mxL_nn
      omega
    · obtain ⟨r, hr1, hr2, hr3, hr4⟩ := hz _ hm x x0 x1 hx
      have h2 := tri_mem ha hca hr1
      have h3 := mem_in ha hr1
      have h4 := gge r.to h3.2.2.1 h3.2.2.2
      rw [hr4] at h4
      rw [hr2, hr3] at h2
      omega
theorem quo_le {a : Abs} {p c : List Int} (h : quoF a p = (0, 0)) (hc : CostFor a c) {x : Int} (h0 : 0 ≤ x) (h1 : x < a.states) : nth (distL (quoA a p) c) (nth p x) ≤ nth (distL a c) x :=
  map_le (quoF_inv h).1 (quo_ok h) hc (quo_cost hc) (f := nth p) (fun x => part_in h) (fun x hx => quo_goal.2 ⟨x, hx, rfl⟩) (fun r hr => quo_arc.2 ⟨r, hr, rfl⟩) h0 h1
/-! ### Bisimulations -/
/-- States of one part are alike. -/
structure BisP (a : Abs) (p : List Int) : Prop where
  goal : ∀ x y : Int, 0 ≤ x → x < a.states → 0 ≤ y → y < a.states → nth p x = nth p y → (x ∈ a.goals ↔ y ∈ a.goals)
  arc : ∀ r, r ∈ a.arcs → ∀ y : Int, 0 ≤ y → y < a.states → nth p r.fr = nth p y → ∃ s, s ∈ a.arcs ∧ s.fr = y ∧ s.lab = r.lab ∧ nth p s.to = nth p r.to
theorem quo_eq {a : Abs} {p c : List Int} (h : quoF a p = (0, 0)) (hb : BisP a p) (hc : CostFor a c) {x : Int} (h0 : 0 ≤ x) (h1 : x < a.states) : nth (distL (quoA a p) c) (nth p x) = nth (distL a c) x := by
  have ha := (quoF_inv h).1
  refine map_eq ha (quo_ok h) hc (quo_cost hc) (f := nth p) (fun x => part_in h) (fun x x0 x1 => ⟨fun hx => quo_goal.2 ⟨x, hx, rfl⟩, fun hx => ?_⟩) (fun r hr => quo_arc.2 ⟨r, hr, rfl⟩) (fun z hz x x0 x1 hx => ?_) h0 h1
  · obtain ⟨g, hg, he⟩ := quo_goal.1 hx
    have := setP_mem ha.goals hg
    exact (hb.goal x g x0 x1 this.1 this.2 he).2 hg
  · obtain ⟨r, hr, rfl⟩ := quo_arc.1 hz
    obtain ⟨s, s1, s2, s3, s4⟩ := hb.arc r hr x x0 x1 hx.symm
    exact ⟨s, s1, s2, s3, s4⟩
/-- Relations that are bisimulations go into each round. -/
theorem rel_prtN {a : Abs} {R : Int → Int → Prop} (hsy : ∀ x y, R x y → R y x) (hg : ∀ x y : Nat, x < nS a → y < nS a → R x y → ((x : Int) ∈ a.goals → (y : Int) ∈ a.goals)) (ha : AbsOk a)
    (hr : ∀ r, r ∈ a.arcs → ∀ y : Nat, y < nS a → R r.fr y → ∃ s, s ∈ a.arcs ∧ s.fr = y ∧ s.lab = r.lab ∧ R r.to s.to) : ∀ (k x y : Nat), x < nS a → y < nS a → R x y → nth (prtN a k) x = nth (prtN a k) y
  | 0, x, y, hx, hy, h => by
    show nth (numL (goalP a)) x = nth (numL (goalP a)) y
    have hl : (goalP a).length = nS a := by simp [goalP]
    rw [numL_eq (by omega) (by omega), nth_eq (by omega), nth_eq (by omega)]
    have h1 := hg x y hx hy h
    have h2 := hg y x hy hx (hsy _ _ h)
    simp only [goalP, List.getElem_map, List.getElem_range]
    by_cases hm : (x : Int) ∈ a.goals
    · rw [if_pos hm, if_pos (h1 hm)]
    · rw [if_neg hm, if_neg (fun hn => hm (h2 hn))]
  | k + 1, x, y, hx, hy, h => by
    have ih := rel_prtN hsy hg ha hr k
    show nth (refL a (prtN a k)) x = nth (refL a (prtN a k)) y
    have na := nS_eq ha
    rw [refL_eq hx hy]
    refine ⟨ih x y hx hy h, sig_eq.2 fun z => ?_⟩
    have half : ∀ x y : Nat, x < nS a → y < nS a → R x y → z ∈ sig a (prtN a k) x → z ∈ sig a (prtN a k) y := fun x y hx hy h hz => by
      obtain ⟨r, r1, r2, rfl⟩ := mem_sig.1 hz
      obtain ⟨s, s1, s2, s3, s4⟩ := hr r r1 y hy (by rw [r2]; exact h)
      refine mem_sig.2 ⟨s, s1, s2, ?_⟩
      have i1 := mem_in ha r1
      have i2 := mem_in ha s1
      obtain ⟨u, hu⟩ := Int.eq_ofNat_of_zero_le i1.2.2.1
      obtain ⟨v, hv⟩ := Int.eq_ofNat_of_zero_le i2.2.2.1
      have := ih u v (by have := i1.2.2.2; omega) (by have := i2.2.2.2; omega) (by rw [hu, hv] at s4; exact s4)
      rw [s3, hu, hv, this]
    exact ⟨half x y hx hy h, half y x hy hx (hsy _ _ h)⟩
theorem bisL_of_rel {a : Abs} {R : Int → Int → Prop} (hsy : ∀ x y, R x y → R y x) (hg : ∀ x y : Nat, x < nS a → y < nS a → R x y → ((x : Int) ∈ a.goals → (y : Int) ∈ a.goals)) (ha : AbsOk a)
    (hr : ∀ r, r ∈ a.arcs → ∀ y : Nat, y < nS a → R r.fr y → ∃ s, s ∈ a.arcs ∧ s.fr = y ∧ s.lab = r.lab ∧ R r.to s.to) {x y : Nat} (hx : x < nS a) (hy : y < nS a) (h : R x y) : nth (bisL a) x = nth (bisL a) y :=
  rel_prtN hsy hg ha hr _ x y hx hy h
theorem prtN_goal {a : Abs} {x y : Nat} (hx : x < nS a) (hy : y < nS a) : ∀ {k : Nat}, nth (prtN a k) x = nth (prtN a k) y → ((x : Int) ∈ a.goals ↔ (y : Int) ∈ a.goals)
  | 0, h => by
    have h : nth (numL (goalP a)) x = nth (numL (goalP a)) y := h
    have hl : (goalP a).length = nS a := by simp [goalP]
    rw [numL_eq (by omega) (by omega), nth_eq (by omega), nth_eq (by omega)] at h
    simp only [goalP, List.getElem_map, List.getElem_range] at h
    by_cases hm : (x : Int) ∈ a.goals
    · rw [if_pos hm] at h
      refine ⟨fun _ => Decidable.byContradiction fun hn => ?_, fun _ => hm⟩
      rw [if_neg hn] at h; simp at h
    · rw [if_neg hm] at h
      refine ⟨fun hh => absurd hh hm, fun hn => ?_⟩
      rw [if_pos hn] at h; simp at h
  | k + 1, h => prtN_goal hx hy (k := k) (prtN_fin hx hy h)
theorem bisL_bis {a : Abs} (ha : AbsOk a) : BisP a (bisL a) := {
  goal x y x0 x1 y0 y1 h := by
    have na := nS_eq ha
    obtain ⟨u, rfl⟩ := Int.eq_ofNat_of_zero_le x0
    obtain ⟨v, rfl⟩ := Int.eq_ofNat_of_zero_le y0
    exact prtN_goal (by omega) (by omega) h
  arc r hr y y0 y1 h := by
    have na := nS_eq ha
    have hi := mem_in ha hr
    obtain ⟨u, hu⟩ := Int.eq_ofNat_of_zero_le hi.1.1
    obtain ⟨v, rfl⟩ := Int.eq_ofNat_of_zero_le y0
    have hux : u < nS a := by have := hi.1.2; omega
    rw [hu] at h
    rw [← bisL_fix (a := a), refL_eq hux (by omega)] at h
    have h2 := (sig_eq.1 h.2) ⟨0, r.lab, nth (bisL a) r.to⟩
    obtain ⟨s, s1, s2, s3⟩ := mem_sig.1 (h2.1 (mem_sig.2 ⟨r, hr, hu, rfl⟩))
    simp only [Arc.mk.injEq, true_and] at s3
    exact ⟨s, s1, s2, s3.1.symm, s3.2.symm⟩ }
theorem numL_part {α : Type} [DecidableEq α] [Inhabited α] {l : List α} : PartP (numL l) ∧ topTo (numL l) l.length = (dsTo l l.length).length := by
  have key : ∀ k : Nat, k ≤ l.length → (∀ i : Nat, i < k → 0 ≤ nth (numL l) i ∧ nth (numL l) i ≤ topTo (numL l) i) ∧ topTo (numL l) k = (dsTo l k).length := by
    intro k
    induction k with
    | zero => exact fun _ => ⟨fun i hi => by omega, rfl⟩
    | succ k ih =>
      intro hk
      obtain ⟨i1, i2⟩ := ih (by omega)
      have hv : nth (numL l) k = (idD (dsTo l l.length) (nth l k) : Int) := numL_at (by omega)
      by_cases hm : nth l k ∈ dsTo l k
      · have he : nth (numL l) k = (idD (dsTo l k) (nth l k) : Int) := by rw [hv, idD_old hm (n := l.length) (by omega)]
        have hlt : idD (dsTo l k) (nth l k) < (dsTo l k).length := List.idxOf_lt_length_of_mem hm
        refine ⟨fun i hi => ?_, ?_⟩
        · by_cases e : i = k
          · subst e; rw [i2, he]; omega
          · exact i1 i (by omega)
        · rw [ds_old hm]; simp only [topTo]; rw [i2, he]; omega
      · have he : nth (numL l) k = ((dsTo l k).length : Int) := by rw [hv, ← idD_new hm (n := l.length) (by omega)]
        refine ⟨fun i hi => ?_, ?_⟩
        · by_cases e : i = k
          · subst e; rw [i2, he]; omega
          · exact i1 i (by omega)
        · rw [ds_new hm]; simp only [topTo]; rw [i2, he]; simp; omega
  obtain ⟨h1, h2⟩ := key l.length (Nat.le_refl _)
  exact ⟨fun k hk => h1 k (by rw [numL_len] at hk; exact hk), h2⟩
theorem bisL_num {a : Abs} : numL (bisL a) = bisL a := prtN_num
theorem bisL_part {a : Abs} : PartP (bisL a) := by have := (numL_part (l := bisL a)).1; rwa [bisL_num] at this
theorem bisL_quo {a : Abs} (ha : AbsOk a) : quoF a (bisL a) = (0, 0) := quoF_of ha (by rw [bisL_len]; exact (nS_eq ha).1) bisL_part
def allL (n : Int) : List Int := (List.range n.toNat).map fun (i : Nat) => (i : Int)
theorem allL_len {n : Int} : (allL n).length = n.toNat := by simp [allL]
theorem allL_at {n : Int} {i : Nat} (h : i < n.toNat) : nth (allL n) i = i := by rw [nth_eq (by rw [allL_len]; exact h)]; simp [allL]
theorem num_all {n : Int} {l : List Int} (hl : l.length = n.toNat) (h : ∀ i j : Nat, i < l.length → j < l.length → nth l i = nth l j → i = j) (hn : numL l = l) : l = allL n := by
  have hds : ∀ k : Nat, k ≤ l.length → (dsTo l k).length = k := by
    intro k
    induction k with
    | zero => exact fun _ => rfl
    | succ k ih =>
      intro hk
      rw [ds_new (fun hm => by obtain ⟨i, hi, he⟩ := dsTo_mem.1 hm; have := h i k (by omega) (by omega) he; omega), List.length_append, ih (by omega)]; rfl
  refine ext_get (by rw [hl, allL_len]) fun i hi => ?_
  rw [allL_at (by omega), ← hn, numL_at (by omega)]
  show (idD (dsTo l l.length) (nth l i) : Int) = i
  rw [← idD_new (k := i) (fun hm => by obtain ⟨j, hj, he⟩ := dsTo_mem.1 hm; have := h j i (by omega) (by omega) he; omega) hi, hds i (by omega)]
/-- No two states of the quotient can be united again. -/
theorem bisL_again {a : Abs} (ha : AbsOk a) : bisL (quoA a (bisL a)) = allL (quoA a (bisL a)).states := by
  have h := bisL_quo ha
  have hq := quo_ok h
  have na := nS_eq ha
  have nq := nS_eq hq
  have hb := bisL_bis ha
  refine num_all (by rw [bisL_len]; rfl) (fun i j hi hj he => ?_) bisL_num
  rw [bisL_len] at hi hj
  obtain ⟨_, hl, hp⟩ := quoF_inv h
  obtain ⟨x, hx, hxi⟩ := topTo_ex hp (q := (i : Int)) (by omega) (Nat.le_refl _) (by show (i : Int) < (quoA a (bisL a)).states; omega)
  obtain ⟨y, hy, hyj⟩ := topTo_ex hp (q := (j : Int)) (by omega) (Nat.le_refl _) (by show (j : Int) < (quoA a (bisL a)).states; omega)
  have hbq := bisL_bis hq
  have key := bisL_of_rel (a := a) (R := fun x y => nth (bisL (quoA a (bisL a))) (nth (bisL a) x) = nth (bisL (quoA a (bisL a))) (nth (bisL a) y)) (fun x y h => h.symm)
    (fun x y hx hy hxy hg => ?_) ha (fun r hr y hy hry => ?_) (x := x) (y := y) (by omega) (by omega) (by show nth _ _ = nth _ _; rw [hxi, hyj]; exact he)
  · have : (i : Int) = j := by rw [← hxi, ← hyj]; exact key
    omega
  · have p1 := part_in h (x := (x : Int)) (by omega) (by omega)
    have p2 := part_in h (x := (y : Int)) (by omega) (by omega)
    have h1 := (hbq.goal _ _ p1.1 p1.2 p2.1 p2.2 hxy).1 (quo_goal.2 ⟨x, hg, rfl⟩)
    obtain ⟨g, g1, g2⟩ := quo_goal.1 h1
    have := setP_mem ha.goals g1
    exact (hb.goal y g (by omega) (by omega) this.1 this.2 g2).2 g1
  · have p2 := part_in h (x := (y : Int)) (by omega) (by omega)
    obtain ⟨z, z1, z2, z3, z4⟩ := hbq.arc _ (quo_arc.2 ⟨r, hr, rfl⟩) (nth (bisL a) y) p2.1 p2.2 hry
    obtain ⟨s, s1, rfl⟩ := quo_arc.1 z1
    obtain ⟨t, t1, t2, t3, t4⟩ := hb.arc s s1 y (by omega) (by omega) z2
    refine ⟨t, t1, t2, t3.trans z3, ?_⟩
    show nth _ _ = nth _ _
    rw [t4]; exact z4.symm
end Go.Eng
end

section
/- Shrinking: what the walks need. -/

set_option linter.unusedVariables false
set_option linter.unusedSimpArgs false
set_option linter.unusedSectionVars false
namespace Go.Eng
open Go
noncomputable def bisR (a : Abs) : List Int := if absFault a = (0, 0) then bisL a else []
theorem bisR_0 {a : Abs} (h : absFault a = (0, 0)) : bisR a = bisL a := by unfold bisR; rw [if_pos h]
theorem bisR_1 {a : Abs} (h : absFault a ≠ (0, 0)) : bisR a = [] := by unfold bisR; rw [if_neg h]
/-- The keys of goals so far. -/
def gpTo (a : Abs) (k : Nat) : List Asg := (List.range (nS a)).map fun (x : Nat) => (if (x : Int) ∈ a.goals.take k then 1 else 0, 0)
theorem gpTo_len {a : Abs} {k : Nat} : (gpTo a k).length = nS a := by simp [gpTo]
theorem gpTo_0 {a : Abs} : gpTo a 0 = List.replicate (nS a) (0, 0) := by
  apply List.ext_getElem (by simp [gpTo])
  intro i h1 h2; simp [gpTo]
theorem gpTo_end {a : Abs} : gpTo a a.goals.length = goalP a := by unfold gpTo goalP; rw [List.take_length]
theorem gp_set {a : Abs} {k : Nat} (hk : k < a.goals.length) (h0 : 0 ≤ nth a.goals k) (h1 : nth a.goals k < nS a) :
    ((gpTo a k).map asg).set (nth a.goals k).toNat ((asg (nth (gpTo a k) (nth a.goals k))).set 0 (.v (.int .i64 1))) = (gpTo a (k + 1)).map asg := by
  obtain ⟨g, hg⟩ := Int.eq_ofNat_of_zero_le h0
  have hgl : g < nS a := by omega
  rw [hg]
  apply List.ext_getElem (by simp [gpTo])
  intro i h2 h3
  have hi : i < nS a := by simpa [gpTo] using h3
  rw [List.getElem_set]
  simp only [List.getElem_map, Int.toNat_natCast]
  have hs : a.goals.take (k + 1) = a.goals.take k ++ [(g : Int)] := by rw [tk_s hk, hg]
  by_cases e : g = i
  · subst e
    rw [if_pos rfl, nth_eq (by rw [gpTo_len]; exact hgl)]
    simp only [gpTo, List.getElem_map, List.getElem_range, hs, List.mem_append, List.mem_singleton, or_true, if_true]
    rfl
  · rw [if_neg e]
    simp only [gpTo, List.getElem_map, List.getElem_range, hs, List.mem_append, List.mem_singleton]
    have : ¬ (i : Int) = (g : Int) := by omega
    simp only [this, or_false]
theorem bis_lt {a : Abs} {k : Nat} (h : prtN a (k + 1) ≠ prtN a k) : nS a - cnt (prtN a (k + 1)) < nS a - cnt (prtN a k) := by
  have h1 := prtN_step h
  have h2 := cnt_le (p := prtN a (k + 1))
  rw [prtN_len] at h2
  omega
theorem pre_top {p : List Int} : ∀ {k : Nat}, (∀ i : Nat, i < k → nth p i ≤ topTo p i) → topTo p k ≤ k
  | 0, _ => by simp [topTo]
  | k + 1, h => by
    have := pre_top (p := p) (k := k) (fun i hi => h i (by omega))
    have := h k (by omega)
    simp only [topTo]; omega
def allTo (k : Nat) : List Int := (List.range k).map fun (i : Nat) => (i : Int)
theorem exS_bis : bisL lineA = [0, 1, 2] := by
  rw [← bisL_of (a := lineA) (k := 1) (by decide +kernel)]
  decide +kernel
theorem exS_fault : absFault lineA = (0, 0) := by decide +kernel
theorem exS_bisR : bisR lineA = [0, 1, 2] := by rw [bisR_0 exS_fault, exS_bis]
theorem exS_quoF : quoF lineA [0, 1, 0] = (0, 0) := by decide +kernel
theorem exS_arcs : (quoA lineA [0, 1, 0]).arcs = [⟨0, 0, 1⟩, ⟨0, 1, 0⟩, ⟨1, 1, 0⟩] := by
  refine arcs_uniq sd_strict (by decide) fun y => ?_
  rw [quo_arc]
  constructor
  · rintro ⟨r, hr, rfl⟩
    simp only [List.mem_cons, List.not_mem_nil, or_false] at hr
    rcases hr with rfl | rfl | rfl <;> decide
  · intro hy
    simp only [List.mem_cons, List.not_mem_nil, or_false] at hy
    rcases hy with rfl | rfl | rfl
    · exact ⟨⟨0, 0, 1⟩, by decide, rfl⟩
    · exact ⟨⟨2, 1, 2⟩, by decide, rfl⟩
    · exact ⟨⟨1, 1, 2⟩, by decide, rfl⟩
theorem exS_goals : (quoA lineA [0, 1, 0]).goals = [0] := by
  refine pw_uniq (r := (· < ·)) (fun x y h1 h2 => by omega) quo_goals_sorted (by simp) fun y => ?_
  rw [quo_goal]
  constructor
  · rintro ⟨r, hr, rfl⟩
    simp only [List.mem_cons, List.not_mem_nil, or_false] at hr
    subst hr; decide
  · intro hy
    simp only [List.mem_cons, List.not_mem_nil, or_false] at hy
    subst hy
    exact ⟨2, by decide, rfl⟩
theorem exS_quoR : quoR lineA [0, 1, 0] = ⟨2, 2, [⟨0, 0, 1⟩, ⟨0, 1, 0⟩, ⟨1, 1, 0⟩], 0, [0]⟩ := by
  rw [quoR_0 exS_quoF]
  exact abs_ext (by decide) rfl exS_arcs rfl exS_goals
/-! ### The reference's quotient -/
def gFl (a : Abs) (p : List Int) (q : Int) : Nat → Bool
  | 0 => false
  | x + 1 => gFl a p q x || (decide (nth p x = q) && decide ((x : Int) ∈ a.goals))
def gQ (a : Abs) (p : List Int) : Nat → List Int
  | 0 => []
  | q + 1 => if gFl a p q p.length = true then gQ a p q ++ [(q : Int)] else gQ a p q
theorem gFl_iff {a : Abs} {p : List Int} {q : Int} : ∀ {k : Nat}, gFl a p q k = true ↔ ∃ x : Nat, x < k ∧ nth p x = q ∧ (x : Int) ∈ a.goals
  | 0 => by simp [gFl]
  | k + 1 => by
    have ih := gFl_iff (a := a) (p := p) (q := q) (k := k)
    simp only [gFl, Bool.or_eq_true, Bool.and_eq_true, decide_eq_true_eq, ih]
    constructor
    · rintro (⟨x, hx, h⟩ | h)
      · exact ⟨x, by omega, h⟩
      · exact ⟨k, by omega, h⟩
    · rintro ⟨x, hx, h⟩
      by_cases e : x = k
      · subst e; exact .inr h
      · exact .inl ⟨x, by omega, h⟩
theorem gQ_len {a : Abs} {p : List Int} : ∀ {k : Nat}, (gQ a p k).length ≤ k
  | 0 => Nat.le_refl _
  | k + 1 => by
    have := gQ_len (a := a) (p := p) (k := k)
    simp only [gQ]; split
    · simp; omega
    · omega
theorem gQ_mem {a : Abs} {p : List Int} {y : Int} : ∀ {k : Nat}, y ∈ gQ a p k ↔ 0 ≤ y ∧ y < k ∧ gFl a p y p.length = true
  | 0 => by simp [gQ]; omega
  | k + 1 => by
    have ih := gQ_mem (a := a) (p := p) (y := y) (k := k)
    simp only [gQ]
    by_cases h : gFl a p k p.length = true
    · rw [if_pos h, List.mem_append, ih, List.mem_singleton]
      constructor
      · rintro (⟨h1, h2, h3⟩ | rfl)
        · exact ⟨h1, by omega, h3⟩
        · exact ⟨by omega, by omega, h⟩
      · rintro ⟨h1, h2, h3⟩
        by_cases e : y = k
        · exact .inr e
        · exact .inl ⟨h1, by omega, h3⟩
    · rw [if_neg h, ih]
      constructor
      · rintro ⟨h1, h2, h3⟩; exact ⟨h1, by omega, h3⟩
      · rintro ⟨h1, h2, h3⟩
        by_cases e : y = k
        · rw [e] at h3; exact absurd h3 h
        · exact ⟨h1, by omega, h3⟩
theorem gQ_sorted {a : Abs} {p : List Int} : ∀ {k : Nat}, (gQ a p k).Pairwise (· < ·)
  | 0 => by simp [gQ]
  | k + 1 => by
    have ih := gQ_sorted (a := a) (p := p) (k := k)
    simp only [gQ]; split
    · rw [List.pairwise_append]
      refine ⟨ih, by simp, fun x hx y hy => ?_⟩
      rw [List.mem_singleton] at hy
      have := (gQ_mem.1 hx).2.1
      omega
    · exact ih
theorem gQ_end {a : Abs} {p : List Int} (h : quoF a p = (0, 0)) : gQ a p (topTo p p.length).toNat = (quoA a p).goals := by
  obtain ⟨ha, hl, hp⟩ := quoF_inv h
  refine pw_uniq (r := (· < ·)) (fun x y h1 h2 => by omega) gQ_sorted quo_goals_sorted fun y => ?_
  rw [gQ_mem, gFl_iff, quo_goal]
  constructor
  · rintro ⟨_, _, x, hx, he, hg⟩; exact ⟨x, hg, he.symm⟩
  · rintro ⟨g, hg, rfl⟩
    have hi := setP_mem ha.goals hg
    have hq := part_in h hi.1 hi.2
    have hq2 : nth p g < topTo p p.length := hq.2
    obtain ⟨x, rfl⟩ := Int.eq_ofNat_of_zero_le hi.1
    exact ⟨hq.1, by omega, x, by omega, rfl, hg⟩
def qI (a : Abs) (p : List Int) (i : Nat) : Arc := ⟨nth p (nth a.arcs i).fr, (nth a.arcs i).lab, nth p (nth a.arcs i).to⟩
theorem quo_ins {a : Abs} {p : List Int} : insTo (qI a p) a.arcs.length = (quoA a p).arcs := by
  obtain ⟨h1, h2⟩ := insTo_ok (f := qI a p) (k := a.arcs.length)
  refine arcs_uniq h1 sd_strict fun y => ?_
  rw [h2, quo_arc]
  constructor
  · rintro ⟨i, hi, rfl⟩
    exact ⟨_, nth_mem (by omega) (by omega), rfl⟩
  · rintro ⟨x, hx, rfl⟩
    obtain ⟨i, hi, rfl⟩ := List.getElem_of_mem hx
    exact ⟨i, hi, by unfold qI; rw [nth_eq hi]⟩
def quoF1 (a : Abs) (p : List Int) : Int × Int := if absFault a ≠ (0, 0) then absFault a else if (p.length : Int) ≠ a.states then (9, -4) else (0, 0)
theorem quoF1_ok {a : Abs} {p : List Int} (h : (quoF1 a p).1 = 0) : absFault a = (0, 0) ∧ (p.length : Int) = a.states ∧ quoF1 a p = (0, 0) := by
  unfold quoF1 at h ⊢
  by_cases h1 : absFault a = (0, 0)
  · rw [if_neg (fun hn => hn h1)] at h ⊢
    by_cases h2 : (p.length : Int) = a.states
    · rw [if_neg (fun hn => hn h2)]; exact ⟨h1, h2, rfl⟩
    · rw [if_pos h2] at h; simp at h
  · rw [if_pos h1] at h; exact absurd (absFault_ok h).2 h1
theorem quoF_bad {a : Abs} {p : List Int} (h : (quoF1 a p).1 ≠ 0) : quoF1 a p = quoF a p := by
  by_cases h1 : absFault a = (0, 0)
  · by_cases h2 : (p.length : Int) = a.states
    · unfold quoF1 at h
      rw [if_neg (fun hn => hn h1), if_neg (fun hn => hn h2)] at h
      simp at h
    · rw [← quoF_2 h1 h2]
      unfold quoF1
      rw [if_neg (fun hn => hn h1), if_pos h2]
  · rw [← quoF_1 h1]
    unfold quoF1
    rw [if_pos h1]
theorem quoR_rng {a : Abs} {p : List Int} (hr : -9223372036854775808 ≤ a.states ∧ a.states ≤ 9223372036854775807) : -9223372036854775808 ≤ (quoR a p).states ∧ (quoR a p).states ≤ 9223372036854775807 := by
  by_cases h : quoF a p = (0, 0)
  · rw [quoR_0 h]
    have := quo_st h
    omega
  · rw [quoR_1 h]; decide
theorem quo_ad {a : Abs} {p c : List Int} (h : quoF a p = (0, 0)) (hd : adF a c = (0, 0)) : adF (quoR a p) c = (0, 0) ∧ adR (quoR a p) c = distL (quoA a p) c := by
  obtain ⟨ha, hc, _, _⟩ := adF_ok (a := a) (c := c) (by rw [hd])
  have e : adF (quoA a p) c = adF a c := by unfold adF; rw [absFault_of (quo_ok h), absFault_of ha]; rfl
  rw [quoR_0 h]
  exact ⟨e.trans hd, adR_0 (e.trans hd)⟩
theorem quo_low {a : Abs} {p c : List Int} (h : quoF a p = (0, 0)) (hd : adF a c = (0, 0)) : adF (quoR a p) c = (0, 0) ∧ ((adR (quoR a p) c).length : Int) = (quoR a p).states ∧ (p.length : Int) = a.states ∧ (adR a c).length = p.length ∧
    ∀ x : Nat, x < p.length → 0 ≤ nth p x ∧ nth p x < (adR (quoR a p) c).length ∧ nth (adR (quoR a p) c) (nth p x) ≤ nth (adR a c) x := by
  obtain ⟨ha, hc, _, _⟩ := adF_ok (a := a) (c := c) (by rw [hd])
  obtain ⟨h1, h2⟩ := quo_ad h hd
  obtain ⟨_, hl, hp⟩ := quoF_inv h
  have hq := quo_ok h
  have na := nS_eq ha
  have nq := nS_eq hq
  have l1 := (distL_good hq (quo_cost (p := p) hc)).1
  have l2 := (distL_good ha hc).1
  rw [h2, adR_0 hd]
  refine ⟨h1, by rw [quoR_0 h]; omega, hl, by omega, fun x hx => ?_⟩
  have hi := part_in h (x := (x : Int)) (by omega) (by omega)
  exact ⟨hi.1, by omega, quo_le h hc (by omega) (by omega)⟩
theorem quo_keep {a : Abs} {c : List Int} (h0 : absFault a = (0, 0)) (hd : adF a c = (0, 0)) : quoF a (bisR a) = (0, 0) ∧ adF (quoR a (bisR a)) c = (0, 0) ∧ absFault (quoR a (bisR a)) = (0, 0) ∧ ((adR (quoR a (bisR a)) c).length : Int) = (quoR a (bisR a)).states ∧ ((bisR a).length : Int) = a.states ∧ ((adR a c).length : Int) = a.states ∧
    bisR (quoR a (bisR a)) = allL (quoR a (bisR a)).states ∧ (0 ≤ (quoR a (bisR a)).states ∧ (quoR a (bisR a)).states ≤ 60) ∧
    ∀ x : Nat, x < (bisR a).length → 0 ≤ nth (bisR a) x ∧ nth (bisR a) x < (adR (quoR a (bisR a)) c).length ∧ nth (adR (quoR a (bisR a)) c) (nth (bisR a) x) = nth (adR a c) x := by
  obtain ⟨ha, hc, _, _⟩ := adF_ok (a := a) (c := c) (by rw [hd])
  rw [bisR_0 h0]
  have h := bisL_quo ha
  obtain ⟨h1, h2, h3, h4, h5⟩ := quo_low h hd
  have hq := quo_ok h
  have hst := quo_st h
  have has := ha.head.1
  have hb := bisL_again ha
  refine ⟨h, h1, by rw [quoR_0 h]; exact absFault_of hq, h2, h3, by omega, by rw [quoR_0 h, bisR_0 (absFault_of hq)]; exact hb, by rw [quoR_0 h]; omega, fun x hx => ?_⟩
  obtain ⟨q1, q2, _⟩ := h5 x hx
  refine ⟨q1, q2, ?_⟩
  rw [(quo_ad h hd).2, adR_0 hd]
  exact quo_eq h (bisL_bis ha) hc (by omega) (by omega)
end Go.Eng
end

section
/- Walks, written by gen.py out of hints. -/







set_option linter.unusedVariables false
set_option linter.unusedSimpArgs false
namespace Go.Proofs.Ythgcnfolgbaemaa
open Go.Eng
set_option maxRecDepth 10000
set_option maxHeartbeats 1000000

theorem shrink_Bisimulation_does (a : Abs) (hr : -9223372036854775808 ≤ a.states ∧ a.states ≤ 9223372036854775807) : Does Try.prog false 10 [absS a] (.t [.d (ints (bisR a)), flt (absFault a)]) := by
  refine Does.of_body Try.func10 rfl rfl (by simp) Try.call10 (fun w0 O0 => ?_)
  refine Tr.lenG (n := 0) (i := 2) rfl rfl (fun len0_2 => ?_)
  refine Tr.lenG (n := 0) (i := 4) rfl rfl (fun len0_4 => ?_)
  refine Tr.seq ?_
  refine Tr.region ?_
  refine TrOps.semM (OpSem.box 1 rfl rfl rfl rfl) rfl rfl (by decide) ?_
  refine TrOps.sem (OpSem.move (.inr rfl) rfl) rfl rfl (by decide) ?_
  refine TrOps.semM (OpSem.alloc 3 rfl zc28 rfl) rfl rfl (by decide) ?_
  refine TrOps.nil ?_
  refine At.seq ?_
  refine Tr.seq ?_
  refine Tr.seq ?_
  refine Tr.region ?_
  refine TrOps.sem (OpSem.loadbN rfl rfl rfl vs25 (by first | decide | simp)) rfl rfl (by decide) ?_
  refine TrOps.sem (OpSem.call0 (abstraction_Validate_does a hr) rfl rfl rfl rfl (Les.refl _)) rfl rfl (by decide) ?_
  refine TrOps.semM (OpSem.alloc 4 rfl zc28 rfl) rfl rfl (by decide) ?_
  refine TrOps.storeb rfl rfl rfl rfl rfl rfl rfl vs28 (by first | decide | simp) ?_
  refine TrOps.nil ?_
  refine At.seq ?_
  refine Tr.seq ?_
  refine Tr.region ?_
  refine TrOps.sem (OpSem.loadbN rfl rfl rfl vs28 (by first | decide | simp)) rfl rfl (by decide) ?_
  refine TrOps.sem (OpSem.build rfl rfl pl28 zc28 rfl rfl) rfl rfl (by decide) ?_
  refine TrOps.sem (OpSem.neS2 rfl rfl rfl io28) rfl rfl (by decide) ?_
  refine TrOps.nil ?_
  refine At.seq ?_
  refine Tr.cond rfl (fun c14 => ?_) (fun c14 => ?_)
  · have hne : absFault a ≠ (0, 0) := fun h => by simp [h] at c14
    refine Tr.seq ?_
    refine PC.start [] ?_
    refine PC.sem (OpSem.loadbN rfl rfl rfl vs28 (by first | decide | simp)) rfl rfl ?_
    refine PC.sem (OpSem.move (.inr rfl) rfl) rfl rfl ?_
    refine PC.done0 mixed (by kernel_rfl) (by kernel_rfl) (by kernel_rfl) (by kernel_rfl) (by kernel_rfl) ?_
    refine TrOps.storeb rfl rfl rfl rfl rfl rfl rfl vs28 (by first | decide | simp) ?_
    refine TrOps.nil ?_
    refine At.seq ?_
    refine Tr.ret ?_
    refine At.pass_ret ?_
    exact At.ret rfl (.tmp rfl <| .cellN rfl rfl vs28 <| .nil) rfl (Le.t (.cons (by rw [bisR_1 hne]; exact Le.nil 1) <| .cons (.refl _) <| .nil))
  · have h0 : absFault a = (0, 0) := pair0 (by simpa using c14)
    have hA := (absFault_ok (congrArg Prod.fst h0)).1
    have hst := hA.head.1
    have hns := nS_eq hA
    have hgl := goals_len hA
    refine Tr.skip ?_
    refine At.seq ?_
    refine Tr.seq ?_
    refine Tr.region ?_
    refine TrOps.sem (OpSem.fieldr rfl rfl fo25_0) rfl rfl (by decide) ?_
    refine TrOps.sem (OpSem.loadb1 rfl rfl rfl vs3 rfl) rfl rfl (by decide) ?_
    refine TrOps.semM (OpSem.makeSlice 18 rfl rfl rfl es49 ze49 rfl rfl (by decide) bye49 (by omega) (by omega) (by omega)) rfl rfl (by decide) ?_
    refine TrOps.sem (OpSem.move (.inr rfl) rfl) rfl rfl (by decide) ?_
    refine TrOps.nil ?_
    refine At.seq ?_
    refine Tr.seq ?_
    refine Tr.seq ?_
    refine Tr.region ?_
    refine TrOps.sem (OpSem.fieldr rfl rfl fo25_4) rfl rfl (by decide) ?_
    refine TrOps.sem (OpSem.loadb1 rfl rfl rfl vs23 rfl) rfl rfl (by decide) ?_
    refine TrOps.sem (OpSem.lenL rfl rfl es23) rfl rfl (by decide) ?_
    refine TrOps.sem (OpSem.move (.inl rfl) rfl) rfl rfl (by decide) ?_
    refine TrOps.nil ?_
    refine At.seq ?_
    refine Tr.block ?_
    refine Tr.loop (X := Nat) (fun k => k ≤ a.goals.length) (fun k => [(1, .r 1 0), (3, .r 3 0), (5, .o 18), (20, .d (ints a.goals)), (21, I (a.goals.length)), (22, I (k))]) (fun k => [(18, .own 2 51 ((gpTo a k).map asg)), (1, .box [I (a.states), I (a.labels), .d (arcsD a.arcs), I (a.init), .d (ints a.goals)]), (3, .box [I (0), I (0)])]) (fun k => a.goals.length - k) 0 (by omega) ?_ ?_
    · exact .slot rfl (.refl _) <| .slot rfl (.refl _) <| .slot rfl (.refl _) <| .slot rfl (.refl _) <| .slot rfl (.refl _) <| .slot rfl (Le.of_eq (by simp)) <| .memEq rfl (by rw [gpTo_0, el49]; first | (simp [nS]; done) | (simp [nS]; rfl)) <| .mem rfl <| .mem rfl <| .nil
    · rintro k hkl
      refine Tr.seq ?_
      refine Tr.region ?_
      refine TrOps.sem (OpSem.bin rfl rfl rfl blss) rfl rfl (by decide) ?_
      refine TrOps.nil ?_
      refine At.seq ?_
      refine Tr.seq ?_
      refine Tr.cond rfl (fun c23 => ?_) (fun c23 => ?_)
      · have hk : k < a.goals.length := by simpa using c23
        have hgx := setP_mem hA.goals (nth_mem (l := a.goals) (n := k) (by omega) (by omega))
        refine Tr.skip ?_
        refine At.seq ?_
        refine Tr.seq ?_
        refine Tr.block ?_
        refine Tr.seq ?_
        refine Tr.region ?_
        refine TrOps.sem (OpSem.idxL rfl rfl rfl es23 (by omega) (by omega)) rfl rfl (by decide) ?_
        refine TrOps.sem (OpSem.load1 rfl rfl vs3 rfl) rfl rfl (by decide) ?_
        refine TrOps.sem (OpSem.move (.inr rfl) rfl) rfl rfl (by decide) ?_
        refine TrOps.nil ?_
        refine At.seq ?_
        refine Tr.region ?_
        refine TrOps.sem (OpSem.move (.inl rfl) rfl) rfl rfl (by decide) ?_
        refine TrOps.sem (OpSem.move (.inl rfl) rfl) rfl rfl (by decide) ?_
        refine TrOps.sem (OpSem.idxo rfl rfl rfl rfl es49 (by omega) (by simp [gpTo]; omega)) rfl rfl (by decide) ?_
        refine TrOps.sem (OpSem.fieldq rfl rfl fo51_0) rfl rfl (by decide) ?_
        refine TrOps.storeq rfl rfl rfl rfl rfl rfl rfl vs3 (rows_get (by omega) (by rw [gpTo_len]; omega)) (by simp) ?_
        refine TrOps.nil ?_
        refine At.block_normal ?_
        refine At.seq ?_
        refine Tr.region ?_
        refine TrOps.sem (OpSem.bin rfl rfl rfl (badd (by omega) (by omega))) rfl rfl (by decide) ?_
        refine TrOps.sem (OpSem.move (.inl rfl) rfl) rfl rfl (by decide) ?_
        refine TrOps.nil ?_
        refine At.again (k + 1) (by omega) ?_ (by omega)
        exact .slot rfl (.refl _) <| .slot rfl (.refl _) <| .slot rfl (.refl _) <| .slot rfl (.refl _) <| .slot rfl (.refl _) <| .slot rfl (Le.of_eq (by simp)) <| .memEq rfl (by rw [← gp_set hk hgx.1 (by omega)]) <| .mem rfl <| .mem rfl <| .nil
      · have hk : k = a.goals.length := by simp at c23; omega
        subst hk
        refine Tr.exit ?_
        refine At.pass_exit ?_
        refine At.pass_exit ?_
        refine At.block_same ?_
        refine At.seq ?_
        refine Tr.seq ?_
        refine Tr.region ?_
        refine TrOps.sem (OpSem.move (.inl rfl) rfl) rfl rfl (by decide) ?_
        refine TrOps.sem (OpSem.call (shrink_number_shrink_pair_does (goalP a) (by rw [show (goalP a).length = nS a by simp [goalP]]; omega)).fresh (.inl rfl) rfl rfl rfl rfl (Les.cons (Le.d (by rw [gpTo_end])) .nil)) rfl rfl (by decide) ?_
        refine TrOps.sem (OpSem.move (.inr rfl) rfl) rfl rfl (by decide) ?_
        refine TrOps.nil ?_
        refine At.seq ?_
        refine Tr.block ?_
        refine Tr.loop (X := Nat) (fun k => True) (fun k => [(1, .r 1 0), (3, .r 3 0), (8, .d (ints (prtN a k)))]) (fun k => [(1, .box [I (a.states), I (a.labels), .d (arcsD a.arcs), I (a.init), .d (ints a.goals)]), (3, .box [I (0), I (0)])]) (fun k => nS a - cnt (prtN a k)) 0 trivial ?_ ?_
        · exact .slot rfl (.refl _) <| .slot rfl (.refl _) <| .slot rfl (.refl _) <| .mem rfl <| .mem rfl <| .nil
        · rintro k hkt
          refine Tr.block ?_
          refine Tr.seq ?_
          refine Tr.region ?_
          refine TrOps.sem (OpSem.loadbN rfl rfl rfl vs25 (by first | decide | simp)) rfl rfl (by decide) ?_
          refine TrOps.sem (OpSem.move (.inl rfl) rfl) rfl rfl (by decide) ?_
          refine TrOps.sem (OpSem.call0 (shrink_refine_does a (prtN a k) hA prtN_len).fresh rfl rfl rfl rfl (Les.refl _)) rfl rfl (by decide) ?_
          refine TrOps.sem (OpSem.move (.inr rfl) rfl) rfl rfl (by decide) ?_
          refine TrOps.nil ?_
          refine At.seq ?_
          refine Tr.seq ?_
          refine Tr.seq ?_
          refine Tr.region ?_
          refine TrOps.sem (OpSem.move (.inl rfl) rfl) rfl rfl (by decide) ?_
          refine TrOps.sem (OpSem.move (.inl rfl) rfl) rfl rfl (by decide) ?_
          refine TrOps.sem (OpSem.call0 (slices_Equal_int_int_does (prtN a (k + 1)) (prtN a k)) rfl rfl rfl rfl (Les.refl _)) rfl rfl (by decide) ?_
          refine TrOps.nil ?_
          refine At.seq ?_
          refine Tr.cond rfl (fun c38 => ?_) (fun c38 => ?_)
          · have he : prtN a (k + 1) = prtN a k := of_decide_eq_true c38
            refine Tr.seq ?_
            refine Tr.region ?_
            refine TrOps.sem (OpSem.move (.inl rfl) rfl) rfl rfl (by decide) ?_
            refine TrOps.sem (OpSem.build rfl rfl pl28 zc28 rfl rfl) rfl rfl (by decide) ?_
            refine TrOps.sem (OpSem.move (.inr rfl) rfl) rfl rfl (by decide) ?_
            refine TrOps.storeb rfl rfl rfl rfl rfl rfl rfl vs28 (by first | decide | simp) ?_
            refine TrOps.nil ?_
            refine At.seq ?_
            refine Tr.ret ?_
            refine At.pass_ret ?_
            refine At.block_ret ?_
            refine At.pass_ret ?_
            refine At.block_ret ?_
            exact At.ret rfl (.tmp rfl <| .cellN rfl rfl vs28 <| .nil) rfl (Le.t (.cons (Le.of_eq (by rw [bisR_0 h0, ← bisL_of he])) <| .cons (Le.flt h0.symm) <| .nil))
          · have he : prtN a (k + 1) ≠ prtN a k := of_decide_eq_false c38
            refine Tr.skip ?_
            refine At.seq ?_
            refine Tr.region ?_
            refine TrOps.sem (OpSem.move (.inl rfl) rfl) rfl rfl (by decide) ?_
            refine TrOps.sem (OpSem.move (.inr rfl) rfl) rfl rfl (by decide) ?_
            refine TrOps.nil ?_
            refine At.block_normal ?_
            refine At.again (k + 1) trivial ?_ (bis_lt he)
            exact .slot rfl (.refl _) <| .slot rfl (.refl _) <| .slot rfl (.refl _) <| .mem rfl <| .mem rfl <| .nil

theorem shrink_Quotient_does (a : Abs) (part : List Int) (hr : -9223372036854775808 ≤ a.states ∧ a.states ≤ 9223372036854775807) : Does Try.prog false 16 [absS a, .d (ints part)] (.t [absS (quoR a part), flt (quoF a part)]) := by
  refine Does.of_body Try.func16 rfl rfl (by simp) Try.call16 (fun w0 O0 => ?_)
  refine Tr.lenG (n := 0) (i := 2) rfl rfl (fun len0_2 => ?_)
  refine Tr.lenG (n := 0) (i := 4) rfl rfl (fun len0_4 => ?_)
  refine Tr.lenLe (n := 1) rfl (fun len1 => ?_)
  refine Tr.seq ?_
  refine Tr.region ?_
  refine TrOps.semM (OpSem.box 2 rfl rfl rfl rfl) rfl rfl (by decide) ?_
  refine TrOps.semM (OpSem.alloc 4 rfl zc25 rfl) rfl rfl (by decide) ?_
  refine TrOps.semM (OpSem.alloc 5 rfl zc28 rfl) rfl rfl (by decide) ?_
  refine TrOps.nil ?_
  refine At.seq ?_
  refine Tr.seq ?_
  refine Tr.seq ?_
  refine Tr.region ?_
  refine TrOps.sem (OpSem.loadbN rfl rfl rfl vs25 (by first | decide | simp)) rfl rfl (by decide) ?_
  refine TrOps.sem (OpSem.call0 (abstraction_Validate_does a hr) rfl rfl rfl rfl (Les.refl _)) rfl rfl (by decide) ?_
  refine TrOps.semM (OpSem.alloc 6 rfl zc28 rfl) rfl rfl (by decide) ?_
  refine TrOps.storeb rfl rfl rfl rfl rfl rfl rfl vs28 (by first | decide | simp) ?_
  refine TrOps.nil ?_
  refine At.seq ?_
  refine Tr.seq ?_
  refine Tr.region ?_
  refine TrOps.sem (OpSem.loadbN rfl rfl rfl vs28 (by first | decide | simp)) rfl rfl (by decide) ?_
  refine TrOps.sem (OpSem.build rfl rfl pl28 zc28 rfl rfl) rfl rfl (by decide) ?_
  refine TrOps.sem (OpSem.neS2 rfl rfl rfl io28) rfl rfl (by decide) ?_
  refine TrOps.nil ?_
  refine At.seq ?_
  refine Tr.cond rfl (fun c19 => ?_) (fun c19 => ?_)
  · have hn0 : absFault a ≠ (0, 0) := fun h => by simp [h] at c19
    have he : absFault a = quoF a part := quoF_1 hn0
    have hne : quoF a part ≠ (0, 0) := by rw [← he]; exact hn0
    refine Tr.seq ?_
    refine PC.start [4] ?_
    refine PC.sem (OpSem.build rfl rfl pl25 zc25 rfl rfl) rfl rfl ?_
    refine PC.sem (OpSem.loadbN rfl rfl rfl vs28 (by first | decide | simp)) rfl rfl ?_
    refine PC.storeb 100002 rfl rfl rfl rfl rfl rfl rfl vs25 (by first | decide | simp) ?_
    refine PC.done mixed (by kernel_rfl) (by kernel_rfl) (by kernel_rfl) (by kernel_rfl) ?_
    refine TrOps.storeb rfl rfl rfl rfl rfl rfl rfl vs28 (by first | decide | simp) ?_
    refine TrOps.nil ?_
    refine At.seq ?_
    refine Tr.ret ?_
    refine At.pass_ret ?_
    exact At.ret rfl (.cellN rfl rfl vs25 <| .cellN rfl rfl vs28 <| .nil) rfl (Le.t (.cons (by rw [quoR_1 hne]; exact Le.g (.cons (.refl _) <| .cons (.refl _) <| .cons (Le.nil 3) <| .cons (.refl _) <| .cons (Le.nil 1) <| .nil)) <| .cons (Le.flt he) <| .nil))
  · have h0 : absFault a = (0, 0) := pair0 (by simpa using c19)
    have hA := (absFault_ok (congrArg Prod.fst h0)).1
    have hst := hA.head.1
    have hns := nS_eq hA
    have hgl := goals_len hA
    have hal := hA.len
    have hin := hA.head.2.2
    refine Tr.skip ?_
    refine At.seq ?_
    refine Tr.seq ?_
    refine Tr.seq ?_
    refine Tr.region ?_
    refine TrOps.sem (OpSem.move (.inl rfl) rfl) rfl rfl (by decide) ?_
    refine TrOps.sem (OpSem.lenL rfl rfl es23) rfl rfl (by decide) ?_
    refine TrOps.sem (OpSem.fieldr rfl rfl fo25_0) rfl rfl (by decide) ?_
    refine TrOps.sem (OpSem.loadb1 rfl rfl rfl vs3 rfl) rfl rfl (by decide) ?_
    refine TrOps.sem (OpSem.bin rfl rfl rfl bneq) rfl rfl (by decide) ?_
    refine TrOps.nil ?_
    refine At.seq ?_
    refine Tr.cond rfl (fun c26 => ?_) (fun c26 => ?_)
    · have he : (9, -4) = quoF a part := quoF_2 h0 (by simpa using c26)
      have hne : quoF a part ≠ (0, 0) := by rw [← he]; decide
      refine Tr.seq ?_
      refine Tr.region ?_
      refine TrOps.sem (OpSem.build rfl rfl pl25 zc25 rfl rfl) rfl rfl (by decide) ?_
      refine TrOps.sem (OpSem.build rfl rfl pl28 zc28 rfl rfl) rfl rfl (by decide) ?_
      refine TrOps.storeb rfl rfl rfl rfl rfl rfl rfl vs25 (by first | decide | simp) ?_
      refine TrOps.storeb rfl rfl rfl rfl rfl rfl rfl vs28 (by first | decide | simp) ?_
      refine TrOps.nil ?_
      refine At.seq ?_
      refine Tr.ret ?_
      refine At.pass_ret ?_
      exact At.ret rfl (.cellN rfl rfl vs25 <| .cellN rfl rfl vs28 <| .nil) rfl (Le.t (.cons (by rw [quoR_1 hne]; exact Le.g (.cons (.refl _) <| .cons (.refl _) <| .cons (Le.nil 3) <| .cons (.refl _) <| .cons (Le.nil 1) <| .nil)) <| .cons (Le.flt he) <| .nil))
    · have hln : (part.length : Int) = a.states := by simpa using c26
      refine Tr.skip ?_
      refine At.seq ?_
      refine Tr.seq ?_
      refine Tr.region ?_
      refine TrOps.sem (OpSem.move (.inr rfl) rfl) rfl rfl (by decide) ?_
      refine TrOps.nil ?_
      refine At.seq ?_
      refine Tr.seq ?_
      refine Tr.seq ?_
      refine Tr.region ?_
      refine TrOps.sem (OpSem.move (.inl rfl) rfl) rfl rfl (by decide) ?_
      refine TrOps.sem (OpSem.lenL rfl rfl es23) rfl rfl (by decide) ?_
      refine TrOps.sem (OpSem.move (.inl rfl) rfl) rfl rfl (by decide) ?_
      refine TrOps.nil ?_
      refine At.seq ?_
      refine Tr.block ?_
      refine Tr.loop (X := Nat) (fun k => k ≤ part.length ∧ (∀ i : Nat, i < k → 0 ≤ nth part i ∧ nth part i ≤ topTo part i)) (fun k => [(1, .d (ints part)), (2, .r 2 0), (4, .r 4 0), (5, .r 5 0), (7, I ((topTo part k))), (29, .d (ints part)), (30, I (part.length)), (31, I (k))]) (fun k => [(2, .box [I (a.states), I (a.labels), .d (arcsD a.arcs), I (a.init), .d (ints a.goals)]), (4, .box [I (0), I (0), .d (.v (.slice none 0 0)), I (0), .d (.v (.slice none 0 0))]), (5, .box [I (0), I (0)])]) (fun k => part.length - k) 0 ⟨by omega, by simp⟩ ?_ ?_
      · exact .slot rfl (.refl _) <| .slot rfl (.refl _) <| .slot rfl (.refl _) <| .slot rfl (.refl _) <| .slot rfl (Le.of_eq (by simp [topTo])) <| .slot rfl (.refl _) <| .slot rfl (.refl _) <| .slot rfl (Le.of_eq (by simp)) <| .mem rfl <| .mem rfl <| .mem rfl <| .nil
      · rintro k ⟨hkl, hinv⟩
        refine Tr.seq ?_
        refine Tr.region ?_
        refine TrOps.sem (OpSem.bin rfl rfl rfl blss) rfl rfl (by decide) ?_
        refine TrOps.nil ?_
        refine At.seq ?_
        refine Tr.seq ?_
        refine Tr.cond rfl (fun c32 => ?_) (fun c32 => ?_)
        · have hk : k < part.length := by simpa using c32
          have htp := pre_top (p := part) (k := k) (fun i hi => (hinv i hi).2)
          refine Tr.skip ?_
          refine At.seq ?_
          refine Tr.seq ?_
          refine Tr.block ?_
          refine Tr.seq ?_
          refine Tr.region ?_
          refine TrOps.sem (OpSem.idxL rfl rfl rfl es23 (by omega) (by omega)) rfl rfl (by decide) ?_
          refine TrOps.sem (OpSem.load1 rfl rfl vs3 rfl) rfl rfl (by decide) ?_
          refine TrOps.sem (OpSem.move (.inr rfl) rfl) rfl rfl (by decide) ?_
          refine TrOps.nil ?_
          refine At.seq ?_
          refine Tr.seq ?_
          refine Tr.seq ?_
          refine Tr.region ?_
          refine TrOps.sem (OpSem.move (.inl rfl) rfl) rfl rfl (by decide) ?_
          refine TrOps.sem (OpSem.bin rfl rfl rfl blss) rfl rfl (by decide) ?_
          refine TrOps.sem (OpSem.move (.inl rfl) rfl) rfl rfl (by decide) ?_
          refine TrOps.split (n := 37) rfl (fun c37 => ?_) (fun c37 => ?_)
          · have he : (5, -4) = quoF a part := quoF_3 h0 hln (fun hp => by have := (hp k hk).1; simp at c37; omega)
            have hne : quoF a part ≠ (0, 0) := by rw [← he]; decide
            refine TrOps.gF rfl rfl rfl rfl c37 rfl (by decide) ?_
            refine TrOps.gF rfl rfl rfl rfl c37 rfl (by decide) ?_
            refine TrOps.gF rfl rfl rfl rfl c37 rfl (by decide) ?_
            refine TrOps.sem (OpSem.pickT rfl rfl c37 rfl) rfl rfl (by decide) ?_
            refine TrOps.nil ?_
            refine At.seq ?_
            refine Tr.condT rfl rfl ?_
            refine Tr.seq ?_
            refine Tr.region ?_
            refine TrOps.sem (OpSem.build rfl rfl pl25 zc25 rfl rfl) rfl rfl (by decide) ?_
            refine TrOps.sem (OpSem.build rfl rfl pl28 zc28 rfl rfl) rfl rfl (by decide) ?_
            refine TrOps.storeb rfl rfl rfl rfl rfl rfl rfl vs25 (by first | decide | simp) ?_
            refine TrOps.storeb rfl rfl rfl rfl rfl rfl rfl vs28 (by first | decide | simp) ?_
            refine TrOps.nil ?_
            refine At.seq ?_
            refine Tr.ret ?_
            refine At.pass_ret ?_
            refine At.block_ret ?_
            refine At.pass_ret ?_
            refine At.pass_ret ?_
            refine At.block_ret ?_
            refine At.pass_ret ?_
            exact At.ret rfl (.cellN rfl rfl vs25 <| .cellN rfl rfl vs28 <| .nil) rfl (Le.t (.cons (by rw [quoR_1 hne]; exact Le.g (.cons (.refl _) <| .cons (.refl _) <| .cons (Le.nil 3) <| .cons (.refl _) <| .cons (Le.nil 1) <| .nil)) <| .cons (Le.flt he) <| .nil))
          · refine TrOps.gT rfl rfl rfl rfl c37 ?_
            refine TrOps.sem (OpSem.move (.inl rfl) rfl) rfl rfl (by decide) ?_
            refine TrOps.gT rfl rfl rfl rfl c37 ?_
            refine TrOps.sem (OpSem.move (.inl rfl) rfl) rfl rfl (by decide) ?_
            refine TrOps.gT rfl rfl rfl rfl c37 ?_
            refine TrOps.sem (OpSem.bin rfl rfl rfl bgtr) rfl rfl (by decide) ?_
            refine TrOps.sem (OpSem.pickF rfl rfl c37 rfl) rfl rfl (by decide) ?_
            refine TrOps.nil ?_
            refine At.seq ?_
            refine Tr.cond rfl (fun c41 => ?_) (fun c41 => ?_)
            · have he : (5, -4) = quoF a part := quoF_3 h0 hln (fun hp => by have := (hp k hk).2; simp at c41; omega)
              have hne : quoF a part ≠ (0, 0) := by rw [← he]; decide
              refine Tr.seq ?_
              refine Tr.region ?_
              refine TrOps.sem (OpSem.build rfl rfl pl25 zc25 rfl rfl) rfl rfl (by decide) ?_
              refine TrOps.sem (OpSem.build rfl rfl pl28 zc28 rfl rfl) rfl rfl (by decide) ?_
              refine TrOps.storeb rfl rfl rfl rfl rfl rfl rfl vs25 (by first | decide | simp) ?_
              refine TrOps.storeb rfl rfl rfl rfl rfl rfl rfl vs28 (by first | decide | simp) ?_
              refine TrOps.nil ?_
              refine At.seq ?_
              refine Tr.ret ?_
              refine At.pass_ret ?_
              refine At.block_ret ?_
              refine At.pass_ret ?_
              refine At.pass_ret ?_
              refine At.block_ret ?_
              refine At.pass_ret ?_
              exact At.ret rfl (.cellN rfl rfl vs25 <| .cellN rfl rfl vs28 <| .nil) rfl (Le.t (.cons (by rw [quoR_1 hne]; exact Le.g (.cons (.refl _) <| .cons (.refl _) <| .cons (Le.nil 3) <| .cons (.refl _) <| .cons (Le.nil 1) <| .nil)) <| .cons (Le.flt he) <| .nil))
            · have hq : 0 ≤ nth part k ∧ nth part k ≤ topTo part k := by simp at c37 c41; omega
              refine Tr.skip ?_
              refine At.seq ?_
              refine Tr.region ?_
              refine TrOps.sem (OpSem.move (.inl rfl) rfl) rfl rfl (by decide) ?_
              refine TrOps.sem (OpSem.move (.inl rfl) rfl) rfl rfl (by decide) ?_
              refine TrOps.sem (OpSem.bin rfl rfl rfl (badd (by omega) (by omega))) rfl rfl (by decide) ?_
              refine TrOps.sem (OpSem.max2 rfl rfl rfl) rfl rfl (by decide) ?_
              refine TrOps.sem (OpSem.move (.inr rfl) rfl) rfl rfl (by decide) ?_
              refine TrOps.nil ?_
              refine At.block_normal ?_
              refine At.seq ?_
              refine Tr.region ?_
              refine TrOps.sem (OpSem.bin rfl rfl rfl (badd (by omega) (by omega))) rfl rfl (by decide) ?_
              refine TrOps.sem (OpSem.move (.inl rfl) rfl) rfl rfl (by decide) ?_
              refine TrOps.nil ?_
              refine At.again (k + 1) ⟨by omega, all_succ hinv hq⟩ ?_ (by omega)
              exact .slot rfl (.refl _) <| .slot rfl (.refl _) <| .slot rfl (.refl _) <| .slot rfl (.refl _) <| .slot rfl (Le.of_eq (by simp [topTo])) <| .slot rfl (.refl _) <| .slot rfl (.refl _) <| .slot rfl (Le.of_eq (by simp)) <| .mem rfl <| .mem rfl <| .mem rfl <| .nil
        · have hk : k = part.length := by simp at c32; omega
          subst hk
          have hF : quoF a part = (0, 0) := quoF_of hA hln hinv
          refine Tr.exit ?_
          refine At.pass_exit ?_
          refine At.pass_exit ?_
          refine At.block_same ?_
          refine At.seq ?_
          refine Tr.seq ?_
          refine PC.start [] ?_
          refine PC.sem (OpSem.move (.inl rfl) rfl) rfl rfl ?_
          refine PC.sem (OpSem.fieldr rfl rfl fo25_1) rfl rfl ?_
          refine PC.sem (OpSem.loadb1 rfl rfl rfl vs3 rfl) rfl rfl ?_
          refine PC.sem (OpSem.move (.inl rfl) rfl) rfl rfl ?_
          refine PC.sem (OpSem.fieldr rfl rfl fo25_3) rfl rfl ?_
          refine PC.sem (OpSem.loadb1 rfl rfl rfl vs3 rfl) rfl rfl ?_
          refine PC.sem (OpSem.idxL rfl rfl rfl es23 (by omega) (by omega)) rfl rfl ?_
          refine PC.sem (OpSem.load1 rfl rfl vs3 rfl) rfl rfl ?_
          refine PC.sem (OpSem.build rfl rfl pl25 zc25 rfl rfl) rfl rfl ?_
          refine PC.semM (OpSem.alloc 10 rfl zc25 rfl) rfl rfl ?_
          refine PC.done1 10 (.box [I (0), I (0), .d (.v (.slice none 0 0)), I (0), .d (.v (.slice none 0 0))]) mixed (by kernel_rfl) (by kernel_rfl) (by kernel_rfl) (by kernel_rfl) (by kernel_rfl) ?_
          refine TrOps.storeb rfl rfl rfl rfl rfl rfl rfl vs25 (by first | decide | simp) ?_
          refine TrOps.nil ?_
          refine At.seq ?_
          refine Tr.seq ?_
          refine Tr.seq ?_
          refine Tr.ownNilBox 91 10 4 1 3 rfl rfl rfl ?_
          refine Tr.ownNilBox 92 10 2 3 57 rfl rfl rfl ?_
          refine Tr.region ?_
          refine TrOps.sem (OpSem.fieldr rfl rfl fo25_4) rfl rfl (by decide) ?_
          refine TrOps.sem (OpSem.loadb1 rfl rfl rfl vs23 rfl) rfl rfl (by decide) ?_
          refine TrOps.sem (OpSem.lenL rfl rfl es23) rfl rfl (by decide) ?_
          refine TrOps.sem (OpSem.move (.inl rfl) rfl) rfl rfl (by decide) ?_
          refine TrOps.nil ?_
          refine At.seq ?_
          refine Tr.block ?_
          refine Tr.loop (X := Nat) (fun k => k ≤ a.goals.length) (fun k => [(1, .d (ints part)), (2, .r 2 0), (4, .r 4 0), (5, .r 5 0), (10, .r 10 0), (59, .d (ints a.goals)), (60, I (a.goals.length)), (61, I (k))]) (fun k => [(10, .box [I ((topTo part part.length)), I (a.labels), .o 92, I (nth part a.init), .o 91]), (91, .own 1 3 ((qGoTo a part k).map fun n => [D.v (.int .i64 n)])), (92, .own 3 57 (([] : List Arc).map arcC)), (2, .box [I (a.states), I (a.labels), .d (arcsD a.arcs), I (a.init), .d (ints a.goals)]), (4, .box [I (0), I (0), .d (.v (.slice none 0 0)), I (0), .d (.v (.slice none 0 0))]), (5, .box [I (0), I (0)])]) (fun k => a.goals.length - k) 0 (by omega) ?_ ?_
          · exact .slot rfl (.refl _) <| .slot rfl (.refl _) <| .slot rfl (.refl _) <| .slot rfl (.refl _) <| .slot rfl (.refl _) <| .slot rfl (.refl _) <| .slot rfl (.refl _) <| .slot rfl (Le.of_eq (by simp)) <| .mem rfl <| .memEq rfl (by first | (simp [qGoTo]; done) | (simp [qGoTo]; rfl)) <| .memEq rfl rfl <| .mem rfl <| .mem rfl <| .mem rfl <| .nil
          · rintro k hkl
            refine Tr.seq ?_
            refine Tr.region ?_
            refine TrOps.sem (OpSem.bin rfl rfl rfl blss) rfl rfl (by decide) ?_
            refine TrOps.nil ?_
            refine At.seq ?_
            refine Tr.seq ?_
            refine Tr.cond rfl (fun c62 => ?_) (fun c62 => ?_)
            · have hk : k < a.goals.length := by simpa using c62
              have hgx := setP_mem hA.goals (nth_mem (l := a.goals) (n := k) (by omega) (by omega))
              have hql := qGo_len (a := a) (p := part) (Nat.le_of_lt hk)
              refine Tr.skip ?_
              refine At.seq ?_
              refine Tr.seq ?_
              refine Tr.block ?_
              refine Tr.seq ?_
              refine Tr.region ?_
              refine TrOps.sem (OpSem.idxL rfl rfl rfl es23 (by omega) (by omega)) rfl rfl (by decide) ?_
              refine TrOps.sem (OpSem.load1 rfl rfl vs3 rfl) rfl rfl (by decide) ?_
              refine TrOps.sem (OpSem.move (.inr rfl) rfl) rfl rfl (by decide) ?_
              refine TrOps.nil ?_
              refine At.seq ?_
              refine PC.start [] ?_
              refine PC.sem (OpSem.fieldr rfl rfl fo25_4) rfl rfl ?_
              refine PC.sem (OpSem.loadb1 rfl rfl rfl vs23 rfl) rfl rfl ?_
              refine PC.sem (OpSem.move (.inl rfl) rfl) rfl rfl ?_
              refine PC.sem (OpSem.move (.inl rfl) rfl) rfl rfl ?_
              refine PC.sem (OpSem.idxL rfl rfl rfl es23 (by omega) (by omega)) rfl rfl ?_
              refine PC.sem (OpSem.load1 rfl rfl vs3 rfl) rfl rfl ?_
              refine PC.sem (OpSem.buildSlice rfl rfl es23 ze23 rfl rfl (by decide) (by decide) rfl rfl) rfl rfl ?_
              refine PC.done0 mixed (by kernel_rfl) (by kernel_rfl) (by kernel_rfl) (by kernel_rfl) (by kernel_rfl) ?_
              refine TrOps.append rfl rfl rfl (by decide) rfl rfl rfl es23 el23 zc3 rfl by3 (by simp [D.one, Value.oneCell']) (by simp [maxLen]; omega) (by simp; omega) ?_
              refine TrOps.sem (OpSem.fieldr rfl rfl fo25_4) rfl rfl (by decide) ?_
              refine TrOps.storeb rfl rfl rfl rfl rfl rfl rfl vs23 (by first | decide | simp) ?_
              refine TrOps.nil ?_
              refine At.block_normal ?_
              refine At.seq ?_
              refine Tr.region ?_
              refine TrOps.sem (OpSem.bin rfl rfl rfl (badd (by omega) (by omega))) rfl rfl (by decide) ?_
              refine TrOps.sem (OpSem.move (.inl rfl) rfl) rfl rfl (by decide) ?_
              refine TrOps.nil ?_
              refine At.again (k + 1) (by omega) ?_ (by omega)
              exact .slot rfl (.refl _) <| .slot rfl (.refl _) <| .slot rfl (.refl _) <| .slot rfl (.refl _) <| .slot rfl (.refl _) <| .slot rfl (.refl _) <| .slot rfl (.refl _) <| .slot rfl (Le.of_eq (by simp)) <| .mem rfl <| .memEq rfl (by rw [qGo_s hk]; simp) <| .memEq rfl rfl <| .mem rfl <| .mem rfl <| .mem rfl <| .nil
            · have hk : k = a.goals.length := by simp at c62; omega
              subst hk
              have hql := qGo_len (a := a) (p := part) (k := a.goals.length) (Nat.le_refl _)
              refine Tr.exit ?_
              refine At.pass_exit ?_
              refine At.pass_exit ?_
              refine At.block_same ?_
              refine At.seq ?_
              refine Tr.seq ?_
              refine Tr.region ?_
              refine TrOps.sem (OpSem.fieldr rfl rfl fo25_4) rfl rfl (by decide) ?_
              refine TrOps.sem (OpSem.loadb1 rfl rfl rfl vs23 rfl) rfl rfl (by decide) ?_
              refine TrOps.ofSt (OpSt.callWS (s := .t []) (sortI_W (qGoTo a part a.goals.length) (by omega)) rfl rfl rfl (fun H => rfl) (plain_ints _) (fun O H w => .t [] [] rfl (fun i x s h => by simp at h))) rfl rfl rfl (by decide) ?_
              refine TrOps.nil ?_
              refine At.seq ?_
              refine Tr.seq ?_
              refine Tr.region ?_
              refine TrOps.sem (OpSem.fieldr rfl rfl fo25_4) rfl rfl (by decide) ?_
              refine TrOps.sem (OpSem.loadb1 rfl rfl rfl vs23 rfl) rfl rfl (by decide) ?_
              refine TrOps.callW (s := .o 91) (compact_allI (sortI (qGoTo a part a.goals.length)) (by rw [sortI_len]; omega)) rfl rfl rfl (by decide) rfl rfl rfl (fun H => rfl) (plain_ints _) (fun O H w h1 => .o 91 h1) ?_
              refine TrOps.sem (OpSem.fieldr rfl rfl fo25_4) rfl rfl (by decide) ?_
              refine TrOps.storeb rfl rfl rfl rfl rfl rfl rfl vs23 (by first | decide | simp) ?_
              refine TrOps.nil ?_
              refine At.seq ?_
              refine Tr.seq ?_
              refine Tr.seq ?_
              refine Tr.freeze 91 rfl ?_
              refine Tr.region ?_
              refine TrOps.sem (OpSem.fieldr rfl rfl fo25_2) rfl rfl (by decide) ?_
              refine TrOps.sem (OpSem.loadb1 rfl rfl rfl vs22 rfl) rfl rfl (by decide) ?_
              refine TrOps.sem (OpSem.lenL rfl rfl es22) rfl rfl (by decide) ?_
              refine TrOps.sem (OpSem.move (.inl rfl) rfl) rfl rfl (by decide) ?_
              refine TrOps.nil ?_
              refine At.seq ?_
              refine Tr.block ?_
              refine Tr.loop (X := Nat) (fun k => k ≤ a.arcs.length) (fun k => [(1, .d (ints part)), (4, .r 4 0), (5, .r 5 0), (10, .r 10 0), (83, .d (arcsD a.arcs)), (84, I (a.arcs.length)), (85, I (k))]) (fun k => [(10, .box [I ((topTo part part.length)), I (a.labels), .o 92, I (nth part a.init), .d (ints (dd (sortI (qGoTo a part a.goals.length))))]), (92, .own 3 57 ((qArcTo a part k).map arcC)), (4, .box [I (0), I (0), .d (.v (.slice none 0 0)), I (0), .d (.v (.slice none 0 0))]), (5, .box [I (0), I (0)])]) (fun k => a.arcs.length - k) 0 (by omega) ?_ ?_
              · exact .slot rfl (.refl _) <| .slot rfl (.refl _) <| .slot rfl (.refl _) <| .slot rfl (.refl _) <| .slot rfl (.refl _) <| .slot rfl (.refl _) <| .slot rfl (Le.of_eq (by simp)) <| .mem rfl <| .memEq rfl (by first | (simp [qArcTo]; done) | (simp [qArcTo]; rfl)) <| .mem rfl <| .mem rfl <| .nil
              · rintro k hkl
                refine Tr.seq ?_
                refine Tr.region ?_
                refine TrOps.sem (OpSem.bin rfl rfl rfl blss) rfl rfl (by decide) ?_
                refine TrOps.nil ?_
                refine At.seq ?_
                refine Tr.seq ?_
                refine Tr.cond rfl (fun c86 => ?_) (fun c86 => ?_)
                · have hk : k < a.arcs.length := by simpa using c86
                  have hx := hA.arc k hk
                  have hql2 := qArc_len (a := a) (p := part) (Nat.le_of_lt hk)
                  refine Tr.skip ?_
                  refine At.seq ?_
                  refine Tr.seq ?_
                  refine Tr.block ?_
                  refine Tr.seq ?_
                  refine Tr.region ?_
                  refine TrOps.sem (OpSem.idxL rfl rfl rfl es22 (by omega) (by omega)) rfl rfl (by decide) ?_
                  refine TrOps.sem (OpSem.loadN rfl rfl vs57 (by first | decide | simp) rfl) rfl rfl (by decide) ?_
                  refine TrOps.semM (OpSem.alloc 14 rfl zc57 rfl) rfl rfl (by decide) ?_
                  refine TrOps.storeb rfl rfl rfl rfl rfl rfl rfl vs57 (by first | decide | simp) ?_
                  refine TrOps.nil ?_
                  refine At.seq ?_
                  refine PC.start [] ?_
                  refine PC.sem (OpSem.fieldr rfl rfl fo25_2) rfl rfl ?_
                  refine PC.sem (OpSem.loadb1 rfl rfl rfl vs22 rfl) rfl rfl ?_
                  refine PC.sem (OpSem.move (.inl rfl) rfl) rfl rfl ?_
                  refine PC.sem (OpSem.fieldr rfl rfl fo57_0) rfl rfl ?_
                  refine PC.sem (OpSem.loadb1 rfl rfl rfl vs3 rfl) rfl rfl ?_
                  refine PC.sem (OpSem.idxL rfl rfl rfl es23 (by omega) (by omega)) rfl rfl ?_
                  refine PC.sem (OpSem.load1 rfl rfl vs3 rfl) rfl rfl ?_
                  refine PC.sem (OpSem.fieldr rfl rfl fo57_1) rfl rfl ?_
                  refine PC.sem (OpSem.loadb1 rfl rfl rfl vs3 rfl) rfl rfl ?_
                  refine PC.sem (OpSem.move (.inl rfl) rfl) rfl rfl ?_
                  refine PC.sem (OpSem.fieldr rfl rfl fo57_2) rfl rfl ?_
                  refine PC.sem (OpSem.loadb1 rfl rfl rfl vs3 rfl) rfl rfl ?_
                  refine PC.sem (OpSem.idxL rfl rfl rfl es23 (by omega) (by omega)) rfl rfl ?_
                  refine PC.sem (OpSem.load1 rfl rfl vs3 rfl) rfl rfl ?_
                  refine PC.sem (OpSem.build rfl rfl pl57 zc57 rfl rfl) rfl rfl ?_
                  refine PC.sem (OpSem.buildSlice rfl rfl es22 ze22 rfl rfl (by decide) (by decide) rfl rfl) rfl rfl ?_
                  refine PC.done0 mixed (by kernel_rfl) (by kernel_rfl) (by kernel_rfl) (by kernel_rfl) (by kernel_rfl) ?_
                  refine TrOps.append rfl rfl rfl (by decide) rfl rfl rfl es22 el22 zc57 rfl by57 (by simp [D.one, Value.oneCell']) (by simp [maxLen]; omega) (by simp; omega) ?_
                  refine TrOps.sem (OpSem.fieldr rfl rfl fo25_2) rfl rfl (by decide) ?_
                  refine TrOps.storeb rfl rfl rfl rfl rfl rfl rfl vs22 (by first | decide | simp) ?_
                  refine TrOps.nil ?_
                  refine At.block_normal ?_
                  refine At.seq ?_
                  refine Tr.region ?_
                  refine TrOps.sem (OpSem.bin rfl rfl rfl (badd (by omega) (by omega))) rfl rfl (by decide) ?_
                  refine TrOps.sem (OpSem.move (.inl rfl) rfl) rfl rfl (by decide) ?_
                  refine TrOps.nil ?_
                  refine At.again (k + 1) (by omega) ?_ (by omega)
                  exact .slot rfl (.refl _) <| .slot rfl (.refl _) <| .slot rfl (.refl _) <| .slot rfl (.refl _) <| .slot rfl (.refl _) <| .slot rfl (.refl _) <| .slot rfl (Le.of_eq (by simp)) <| .mem rfl <| .memEq rfl (by rw [qArc_s hk]; simp) <| .mem rfl <| .mem rfl <| .nil
                · have hk : k = a.arcs.length := by simp at c86; omega
                  subst hk
                  have hql2 := qArc_len (a := a) (p := part) (k := a.arcs.length) (Nat.le_refl _)
                  refine Tr.exit ?_
                  refine At.pass_exit ?_
                  refine At.pass_exit ?_
                  refine At.block_same ?_
                  refine At.seq ?_
                  refine Tr.seq ?_
                  refine Tr.region ?_
                  refine TrOps.sem (OpSem.loadbN rfl rfl rfl vs25 (by first | decide | simp)) rfl rfl (by decide) ?_
                  refine TrOps.callAbs (fun q n c => sorted_all (qArcTo a part a.arcs.length) (topTo part part.length) a.labels (nth part a.init) q n c (by omega)) rfl rfl rfl (by decide) rfl rfl rfl (plain_arcs _) ?_
                  refine TrOps.freeze 92 rfl ?_
                  refine TrOps.sem (OpSem.build rfl rfl pl28 zc28 rfl rfl) rfl rfl (by decide) ?_
                  refine TrOps.storeb rfl rfl rfl rfl rfl rfl rfl vs25 (by first | decide | simp) ?_
                  refine TrOps.storeb rfl rfl rfl rfl rfl rfl rfl vs28 (by first | decide | simp) ?_
                  refine TrOps.nil ?_
                  refine At.seq ?_
                  refine Tr.ret ?_
                  exact At.ret rfl (.cellN rfl rfl vs25 <| .cellN rfl rfl vs28 <| .nil) rfl (Le.t (.cons (Le.of_eq (by rw [quoR_0 hF]; rfl)) <| .cons (Le.flt hF.symm) <| .nil))

theorem Q_IsPartition_does (part : List Int) : Does Try.prog false 11 [.d (ints part)] (Bo (decide (PartP part))) := by
  refine Does.of_body Try.func11 rfl rfl (by simp) Try.call11 (fun w0 O0 => ?_)
  refine Tr.lenLe (n := 0) rfl (fun len0 => ?_)
  refine Tr.seq ?_
  refine Tr.region ?_
  refine TrOps.sem (OpSem.move (.inr rfl) rfl) rfl rfl (by decide) ?_
  refine TrOps.nil ?_
  refine At.seq ?_
  refine Tr.seq ?_
  refine Tr.seq ?_
  refine Tr.region ?_
  refine TrOps.sem (OpSem.move (.inr rfl) rfl) rfl rfl (by decide) ?_
  refine TrOps.nil ?_
  refine At.seq ?_
  refine Tr.block ?_
  refine Tr.loop (X := Nat) (fun k => k ≤ part.length ∧ (∀ i : Nat, i < k → 0 ≤ nth part i ∧ nth part i ≤ topTo part i)) (fun k => [(0, .d (ints part)), (3, I (k))]) (fun k => []) (fun k => part.length - k) 0 ⟨by omega, by simp⟩ ?_ ?_
  · exact .slot rfl (.refl _) <| .slot rfl (Le.of_eq (by simp)) <| .nil
  · rintro k ⟨hkl, hinv⟩
    refine Tr.seq ?_
    refine Tr.seq ?_
    refine Tr.region ?_
    refine TrOps.sem (OpSem.move (.inl rfl) rfl) rfl rfl (by decide) ?_
    refine TrOps.sem (OpSem.move (.inl rfl) rfl) rfl rfl (by decide) ?_
    refine TrOps.sem (OpSem.lenL rfl rfl es23) rfl rfl (by decide) ?_
    refine TrOps.sem (OpSem.bin rfl rfl rfl blss) rfl rfl (by decide) ?_
    refine TrOps.nil ?_
    refine At.seq ?_
    refine Tr.cond rfl (fun c9 => ?_) (fun c9 => ?_)
    · have hk : k < part.length := by simpa using c9
      have htp := pre_top (p := part) (k := k) (fun i hi => (hinv i hi).2)
      have htn := topTo_nn (p := part) (k := k)
      refine Tr.skip ?_
      refine At.seq ?_
      refine Tr.seq ?_
      refine Tr.block ?_
      refine Tr.seq ?_
      refine Tr.region ?_
      refine TrOps.sem (OpSem.move (.inr rfl) rfl) rfl rfl (by decide) ?_
      refine TrOps.nil ?_
      refine At.seq ?_
      refine Tr.seq ?_
      refine Tr.seq ?_
      refine Tr.region ?_
      refine TrOps.sem (OpSem.move (.inr rfl) rfl) rfl rfl (by decide) ?_
      refine TrOps.nil ?_
      refine At.seq ?_
      refine Tr.block ?_
      refine Tr.loop (X := Nat) (fun y => y ≤ k) (fun y => [(0, .d (ints part)), (3, I (k)), (4, I (topTo part y - 1)), (5, I (y))]) (fun y => []) (fun y => k - y) 0 (by omega) ?_ ?_
      · exact .slot rfl (.refl _) <| .slot rfl (.refl _) <| .slot rfl (Le.of_eq (by simp [topTo])) <| .slot rfl (Le.of_eq (by simp)) <| .nil
      · rintro y hyl
        refine Tr.seq ?_
        refine Tr.seq ?_
        refine Tr.region ?_
        refine TrOps.sem (OpSem.move (.inl rfl) rfl) rfl rfl (by decide) ?_
        refine TrOps.sem (OpSem.move (.inl rfl) rfl) rfl rfl (by decide) ?_
        refine TrOps.sem (OpSem.bin rfl rfl rfl blss) rfl rfl (by decide) ?_
        refine TrOps.nil ?_
        refine At.seq ?_
        refine Tr.cond rfl (fun c14 => ?_) (fun c14 => ?_)
        · have hy : y < k := by simpa using c14
          refine Tr.skip ?_
          refine At.seq ?_
          refine Tr.seq ?_
          refine Tr.block ?_
          refine Tr.region ?_
          refine TrOps.sem (OpSem.move (.inl rfl) rfl) rfl rfl (by decide) ?_
          refine TrOps.sem (OpSem.move (.inl rfl) rfl) rfl rfl (by decide) ?_
          refine TrOps.sem (OpSem.move (.inl rfl) rfl) rfl rfl (by decide) ?_
          refine TrOps.sem (OpSem.idxL rfl rfl rfl es23 (by omega) (by omega)) rfl rfl (by decide) ?_
          refine TrOps.sem (OpSem.load1 rfl rfl vs3 rfl) rfl rfl (by decide) ?_
          refine TrOps.sem (OpSem.max2 rfl rfl rfl) rfl rfl (by decide) ?_
          refine TrOps.sem (OpSem.move (.inr rfl) rfl) rfl rfl (by decide) ?_
          refine TrOps.nil ?_
          refine At.block_normal ?_
          refine At.seq ?_
          refine Tr.region ?_
          refine TrOps.sem (OpSem.move (.inl rfl) rfl) rfl rfl (by decide) ?_
          refine TrOps.sem (OpSem.bin rfl rfl rfl (badd (by omega) (by omega))) rfl rfl (by decide) ?_
          refine TrOps.sem (OpSem.move (.inr rfl) rfl) rfl rfl (by decide) ?_
          refine TrOps.nil ?_
          refine At.again (y + 1) (by omega) ?_ (by omega)
          exact .slot rfl (.refl _) <| .slot rfl (.refl _) <| .slot rfl (Le.i (by simp only [topTo]; omega)) <| .slot rfl (Le.of_eq (by simp)) <| .nil
        · have hy : k = y := by simp at c14; omega
          subst hy
          refine Tr.exit ?_
          refine At.pass_exit ?_
          refine At.pass_exit ?_
          refine At.block_same ?_
          refine At.seq ?_
          refine Tr.seq ?_
          refine Tr.region ?_
          refine TrOps.sem (OpSem.move (.inl rfl) rfl) rfl rfl (by decide) ?_
          refine TrOps.sem (OpSem.move (.inl rfl) rfl) rfl rfl (by decide) ?_
          refine TrOps.sem (OpSem.idxL rfl rfl rfl es23 (by omega) (by omega)) rfl rfl (by decide) ?_
          refine TrOps.sem (OpSem.load1 rfl rfl vs3 rfl) rfl rfl (by decide) ?_
          refine TrOps.sem (OpSem.move (.inl rfl) rfl) rfl rfl (by decide) ?_
          refine TrOps.sem (OpSem.bin rfl rfl rfl (badd (by omega) (by omega))) rfl rfl (by decide) ?_
          refine TrOps.sem (OpSem.call0 (R_In_does ..) rfl rfl rfl rfl (Les.refl _)) rfl rfl (by decide) ?_
          refine TrOps.sem (OpSem.not rfl rfl) rfl rfl (by decide) ?_
          refine TrOps.nil ?_
          refine At.seq ?_
          refine Tr.cond rfl (fun c30 => ?_) (fun c30 => ?_)
          · have hb : ¬ (0 ≤ nth part k ∧ nth part k ≤ topTo part k) := by simp at c30; omega
            refine Tr.seq ?_
            refine Tr.region ?_
            refine TrOps.sem (OpSem.move (.inr rfl) rfl) rfl rfl (by decide) ?_
            refine TrOps.nil ?_
            refine At.seq ?_
            refine Tr.ret ?_
            refine At.block_ret ?_
            refine At.pass_ret ?_
            refine At.pass_ret ?_
            refine At.block_ret ?_
            refine At.pass_ret ?_
            exact At.ret rfl (.tmp rfl <| .nil) rfl (Le.bo (decide_eq_false (fun hp => hb (hp k hk))).symm)
          · have hb : 0 ≤ nth part k ∧ nth part k ≤ topTo part k := by simp at c30; omega
            refine Tr.skip ?_
            refine At.block_normal ?_
            refine At.seq ?_
            refine Tr.region ?_
            refine TrOps.sem (OpSem.move (.inl rfl) rfl) rfl rfl (by decide) ?_
            refine TrOps.sem (OpSem.bin rfl rfl rfl (badd (by omega) (by omega))) rfl rfl (by decide) ?_
            refine TrOps.sem (OpSem.move (.inr rfl) rfl) rfl rfl (by decide) ?_
            refine TrOps.nil ?_
            refine At.again (k + 1) ⟨by omega, all_succ hinv hb⟩ ?_ (by omega)
            exact .slot rfl (.refl _) <| .slot rfl (Le.of_eq (by simp)) <| .nil
    · have hk : k = part.length := by simp at c9; omega
      subst hk
      refine Tr.exit ?_
      refine At.pass_exit ?_
      refine At.pass_exit ?_
      refine At.block_same ?_
      refine At.seq ?_
      refine Tr.seq ?_
      refine Tr.region ?_
      refine TrOps.sem (OpSem.move (.inr rfl) rfl) rfl rfl (by decide) ?_
      refine TrOps.nil ?_
      refine At.seq ?_
      refine Tr.ret ?_
      exact At.ret rfl (.tmp rfl <| .nil) rfl (Le.bo (decide_eq_true hinv).symm)

theorem law_shrinkExample_does  : Does Try.prog false 9 [] (Bo true) := by
  refine Does.of_body Try.func9 rfl rfl (by simp) Try.call9 (fun w0 O0 => ?_)
  refine Tr.seq ?_
  refine Tr.region ?_
  refine TrOps.sem (OpSem.move (.inr rfl) rfl) rfl rfl (by decide) ?_
  refine TrOps.nil ?_
  refine At.seq ?_
  refine Tr.seq ?_
  refine Tr.region ?_
  refine TrOps.sem (OpSem.call0 (law_line_does) rfl rfl rfl rfl (Les.refl _)) rfl rfl (by decide) ?_
  refine TrOps.sem (OpSem.call0 (shrink_Bisimulation_does lineA (by decide)) rfl rfl rfl rfl (Les.refl _)) rfl rfl (by decide) ?_
  refine TrOps.sem (OpSem.move (.inl rfl) rfl) rfl rfl (by decide) ?_
  refine TrOps.sem (OpSem.extract rfl rfl rfl) rfl rfl (by decide) ?_
  refine TrOps.sem (OpSem.extract rfl rfl rfl) rfl rfl (by decide) ?_
  refine TrOps.semM (OpSem.alloc 2 rfl zc28 rfl) rfl rfl (by decide) ?_
  refine TrOps.sem (OpSem.move (.inr rfl) rfl) rfl rfl (by decide) ?_
  refine TrOps.storeb rfl rfl rfl rfl rfl rfl rfl vs28 (by first | decide | simp) ?_
  refine TrOps.nil ?_
  refine At.seq ?_
  refine Tr.seq ?_
  refine Tr.region ?_
  refine TrOps.sem (OpSem.call0 (law_line_does) rfl rfl rfl rfl (Les.refl _)) rfl rfl (by decide) ?_
  refine TrOps.sem (OpSem.le (s' := .d (ints [0, 1, 0])) (OpSem.buildSlice rfl rfl es23 ze23 rfl rfl (by decide) (by decide) rfl rfl) (Le.of_eq rfl)) rfl rfl (by decide) ?_
  refine TrOps.sem (OpSem.call0 (shrink_Quotient_does lineA [0, 1, 0] (by decide)) rfl rfl rfl rfl (Les.refl _)) rfl rfl (by decide) ?_
  refine TrOps.sem (OpSem.move (.inl rfl) rfl) rfl rfl (by decide) ?_
  refine TrOps.sem (OpSem.extract rfl rfl rfl) rfl rfl (by decide) ?_
  refine TrOps.sem (OpSem.extract rfl rfl rfl) rfl rfl (by decide) ?_
  refine TrOps.semM (OpSem.alloc 3 rfl zc25 rfl) rfl rfl (by decide) ?_
  refine TrOps.semM (OpSem.alloc 4 rfl zc28 rfl) rfl rfl (by decide) ?_
  refine TrOps.storeb rfl rfl rfl rfl rfl rfl rfl vs25 (by first | decide | simp) ?_
  refine TrOps.storeb rfl rfl rfl rfl rfl rfl rfl vs28 (by first | decide | simp) ?_
  refine TrOps.nil ?_
  refine At.seq ?_
  refine Tr.seq ?_
  refine Tr.region ?_
  refine TrOps.sem (OpSem.fieldr rfl rfl fo28_0) rfl rfl (by decide) ?_
  refine TrOps.sem (OpSem.loadb1 rfl rfl rfl vs3 rfl) rfl rfl (by decide) ?_
  refine TrOps.sem (OpSem.bin rfl rfl rfl beql) rfl rfl (by decide) ?_
  refine TrOps.sem (OpSem.move (.inl rfl) rfl) rfl rfl (by decide) ?_
  refine TrOps.gT rfl rfl rfl rfl (by rw [exS_fault]; rfl) ?_
  refine TrOps.sem (OpSem.fieldr rfl rfl fo28_0) rfl rfl (by decide) ?_
  refine TrOps.gT rfl rfl rfl rfl (by rw [exS_fault]; rfl) ?_
  refine TrOps.sem (OpSem.loadb1 rfl rfl rfl vs3 rfl) rfl rfl (by decide) ?_
  refine TrOps.gT rfl rfl rfl rfl (by rw [exS_fault]; rfl) ?_
  refine TrOps.sem (OpSem.bin rfl rfl rfl beql) rfl rfl (by decide) ?_
  refine TrOps.sem (OpSem.pickT rfl rfl (by rw [exS_fault]; rfl) rfl) rfl rfl (by decide) ?_
  refine TrOps.sem (OpSem.move (.inl rfl) rfl) rfl rfl (by decide) ?_
  refine TrOps.gT rfl rfl rfl rfl (by rw [exS_quoF]; rfl) ?_
  refine TrOps.sem (OpSem.move (.inl rfl) rfl) rfl rfl (by decide) ?_
  refine TrOps.gT rfl rfl rfl rfl (by rw [exS_quoF]; rfl) ?_
  refine TrOps.sem (OpSem.le (s' := .d (ints [0, 1, 2])) (OpSem.buildSlice rfl rfl es23 ze23 rfl rfl (by decide) (by decide) rfl rfl) (Le.of_eq rfl)) rfl rfl (by decide) ?_
  refine TrOps.gT rfl rfl rfl rfl (by rw [exS_quoF]; rfl) ?_
  refine TrOps.sem (OpSem.call0 (R_Ints_does (bisR lineA) [0, 1, 2]) rfl rfl rfl rfl (Les.refl _)) rfl rfl (by decide) ?_
  refine TrOps.sem (OpSem.pickT rfl rfl (by rw [exS_quoF]; rfl) rfl) rfl rfl (by decide) ?_
  refine TrOps.sem (OpSem.move (.inl rfl) rfl) rfl rfl (by decide) ?_
  refine TrOps.gT rfl rfl rfl rfl (by rw [exS_bisR]; rfl) ?_
  refine TrOps.sem (OpSem.fieldr rfl rfl fo25_0) rfl rfl (by decide) ?_
  refine TrOps.gT rfl rfl rfl rfl (by rw [exS_bisR]; rfl) ?_
  refine TrOps.sem (OpSem.loadb1 rfl rfl rfl vs3 rfl) rfl rfl (by decide) ?_
  refine TrOps.gT rfl rfl rfl rfl (by rw [exS_bisR]; rfl) ?_
  refine TrOps.sem (OpSem.bin rfl rfl rfl beql) rfl rfl (by decide) ?_
  refine TrOps.sem (OpSem.pickT rfl rfl (by rw [exS_bisR]; rfl) rfl) rfl rfl (by decide) ?_
  refine TrOps.sem (OpSem.move (.inl rfl) rfl) rfl rfl (by decide) ?_
  refine TrOps.gT rfl rfl rfl rfl (by rw [exS_quoR]; rfl) ?_
  refine TrOps.sem (OpSem.fieldr rfl rfl fo25_2) rfl rfl (by decide) ?_
  refine TrOps.gT rfl rfl rfl rfl (by rw [exS_quoR]; rfl) ?_
  refine TrOps.sem (OpSem.loadb1 rfl rfl rfl vs22 rfl) rfl rfl (by decide) ?_
  refine TrOps.gT rfl rfl rfl rfl (by rw [exS_quoR]; rfl) ?_
  refine TrOps.sem (OpSem.lenL rfl rfl es22) rfl rfl (by decide) ?_
  refine TrOps.gT rfl rfl rfl rfl (by rw [exS_quoR]; rfl) ?_
  refine TrOps.sem (OpSem.bin rfl rfl rfl beql) rfl rfl (by decide) ?_
  refine TrOps.sem (OpSem.pickT rfl rfl (by rw [exS_quoR]; rfl) rfl) rfl rfl (by decide) ?_
  refine TrOps.sem (OpSem.move (.inl rfl) rfl) rfl rfl (by decide) ?_
  refine TrOps.gT rfl rfl rfl rfl (by rw [exS_quoR]; rfl) ?_
  refine TrOps.sem (OpSem.fieldr rfl rfl fo25_4) rfl rfl (by decide) ?_
  refine TrOps.gT rfl rfl rfl rfl (by rw [exS_quoR]; rfl) ?_
  refine TrOps.sem (OpSem.loadb1 rfl rfl rfl vs23 rfl) rfl rfl (by decide) ?_
  refine TrOps.gT rfl rfl rfl rfl (by rw [exS_quoR]; rfl) ?_
  refine TrOps.sem (OpSem.le (s' := .d (ints [0])) (OpSem.buildSlice rfl rfl es23 ze23 rfl rfl (by decide) (by decide) rfl rfl) (Le.of_eq rfl)) rfl rfl (by decide) ?_
  refine TrOps.gT rfl rfl rfl rfl (by rw [exS_quoR]; rfl) ?_
  refine TrOps.sem (OpSem.call0 (R_Ints_does (quoR lineA [0, 1, 0]).goals [0]) rfl rfl rfl rfl (Les.refl _)) rfl rfl (by decide) ?_
  refine TrOps.sem (OpSem.pickT rfl rfl (by rw [exS_quoR]; rfl) rfl) rfl rfl (by decide) ?_
  refine TrOps.sem (OpSem.move (.inr rfl) rfl) rfl rfl (by decide) ?_
  refine TrOps.nil ?_
  refine At.seq ?_
  refine Tr.ret ?_
  exact At.ret rfl (.tmp rfl <| .nil) rfl (Le.bo (by rw [exS_quoR]; rfl))

end Go.Proofs.Ythgcnfolgbaemaa
end

section
/- Walks, written by gen.py out of hints. -/




set_option linter.unusedVariables false
set_option linter.unusedSimpArgs false
namespace Go.Proofs.Ythgcnfolgbaemaa
open Go.Eng
set_option maxRecDepth 10000
set_option maxHeartbeats 1000000

theorem Q_insert_does (l : List Arc) (x : Arc) (hl : l.length ≤ 1000) : DoesO Try.prog 36 [.d (arcsD l), arcS x] 3 57 (((insL l x).map arcC)) := by
  have hsp := cntL_spec (x := x) (l := l)
  have hsk : skpL l x ≤ l.length := by unfold skpL; split <;> omega
  refine DoesO.of_body Try.func36 rfl rfl (by simp) Try.call36 (fun w0 O0 => ?_)
  refine Tr.lenLe (n := 0) rfl (fun len0 => ?_)
  refine Tr.seq ?_
  refine Tr.region ?_
  refine TrOps.semM (OpSem.box 3 rfl rfl rfl rfl) rfl rfl (by decide) ?_
  refine TrOps.sem (OpSem.move (.inr rfl) rfl) rfl rfl (by decide) ?_
  refine TrOps.nil ?_
  refine At.seq ?_
  refine Tr.seq ?_
  refine Tr.region ?_
  refine TrOps.sem (OpSem.move (.inr rfl) rfl) rfl rfl (by decide) ?_
  refine TrOps.nil ?_
  refine At.seq ?_
  refine Tr.seq ?_
  refine Tr.region ?_
  refine TrOps.sem (OpSem.move (.inr rfl) rfl) rfl rfl (by decide) ?_
  refine TrOps.nil ?_
  refine At.seq ?_
  refine Tr.cut [(0, .d (arcsD l)), (3, .r 3 0), (5, .d (.v (.slice none 0 0))), (6, I ((cntL l x : Int)))] [(3, .box [I (x.fr), I (x.lab), I (x.to)])] ?_ ?_
  · refine Tr.block ?_
    refine Tr.loop (X := Nat) (fun k => k ≤ l.length ∧ ∀ i : Nat, i < k → arcLt (nth l i) x) (fun k => [(0, .d (arcsD l)), (3, .r 3 0), (5, .d (.v (.slice none 0 0))), (6, I (k))]) (fun k => [(3, .box [I (x.fr), I (x.lab), I (x.to)])]) (fun k => l.length - k) 0 ⟨by omega, by simp⟩ ?_ ?_
    · exact .slot rfl (.refl _) <| .slot rfl (.refl _) <| .slot rfl (.refl _) <| .slot rfl (Le.of_eq (by simp)) <| .mem rfl <| .nil
    · rintro k ⟨hkl, hinv⟩
      refine Tr.seq ?_
      refine Tr.seq ?_
      refine PC.start [] ?_
      refine PC.sem (OpSem.move (.inl rfl) rfl) rfl rfl ?_
      refine PC.sem (OpSem.move (.inl rfl) rfl) rfl rfl ?_
      refine PC.sem (OpSem.lenL rfl rfl es22) rfl rfl ?_
      refine PC.sem (OpSem.bin rfl rfl rfl blss) rfl rfl ?_
      refine PC.sem (OpSem.move (.inl rfl) rfl) rfl rfl ?_
      refine PC.split (n := 11) rfl (fun c11 => ?_) (fun c11 => ?_)
      · have hk : k < l.length := by simpa using c11
        refine PC.gT (OpSem.move (.inl rfl) rfl) rfl rfl rfl rfl c11 rfl ?_
        refine PC.gT (OpSem.move (.inl rfl) rfl) rfl rfl rfl rfl c11 rfl ?_
        refine PC.gT (OpSem.idxL rfl rfl rfl es22 (by omega) (by omega)) rfl rfl rfl rfl c11 rfl ?_
        refine PC.gT (OpSem.loadN rfl rfl vs57 (by first | decide | simp) rfl) rfl rfl rfl rfl c11 rfl ?_
        refine PC.gT (OpSem.loadbN rfl rfl rfl vs57 (by first | decide | simp)) rfl rfl rfl rfl c11 rfl ?_
        refine PC.done0 mixed (by kernel_rfl) (by kernel_rfl) (by kernel_rfl) (by kernel_rfl) (by kernel_rfl) ?_
        refine TrOps.gT rfl rfl rfl rfl c11 ?_
        refine TrOps.sem (OpSem.call0 (Q_ArcLess_does (nth l k) x) rfl rfl rfl rfl (Les.refl _)) rfl rfl (by decide) ?_
        refine TrOps.sem (OpSem.pickT rfl rfl c11 rfl) rfl rfl (by decide) ?_
        refine TrOps.nil ?_
        refine At.seq ?_
        refine Tr.cond rfl (fun c18 => ?_) (fun c18 => ?_)
        · have hb : arcLt (nth l k) x := of_decide_eq_true c18
          refine Tr.skip ?_
          refine At.seq ?_
          refine Tr.block ?_
          refine Tr.region ?_
          refine TrOps.sem (OpSem.move (.inl rfl) rfl) rfl rfl (by decide) ?_
          refine TrOps.sem (OpSem.bin rfl rfl rfl (badd (by omega) (by omega))) rfl rfl (by decide) ?_
          refine TrOps.sem (OpSem.move (.inr rfl) rfl) rfl rfl (by decide) ?_
          refine TrOps.nil ?_
          refine At.block_normal ?_
          refine At.again (k + 1) ⟨by omega, all_succ hinv hb⟩ ?_ (by omega)
          exact .slot rfl (.refl _) <| .slot rfl (.refl _) <| .slot rfl (.refl _) <| .slot rfl (Le.of_eq (by simp)) <| .mem rfl <| .nil
        · have hb : ¬ arcLt (nth l k) x := of_decide_eq_false c18
          have he : cntL l x = k := cntL_of (by omega) hinv (fun _ => hb)
          refine Tr.exit ?_
          refine At.pass_exit ?_
          refine At.pass_exit ?_
          refine At.block_same ?_
          refine At.meet ?_
          exact .slot rfl (.refl _) <| .slot rfl (.refl _) <| .slot rfl (.refl _) <| .slot rfl (Le.i (by rw [he])) <| .mem rfl <| .nil
      · have hk : k = l.length := by simp at c11; omega
        have he : cntL l x = k := cntL_of (by omega) hinv (fun h => by omega)
        refine PC.gF rfl rfl rfl rfl c11 rfl ?_
        refine PC.gF rfl rfl rfl rfl c11 rfl ?_
        refine PC.gF rfl rfl rfl rfl c11 rfl ?_
        refine PC.gF rfl rfl rfl rfl c11 rfl ?_
        refine PC.gF rfl rfl rfl rfl c11 rfl ?_
        refine PC.done0 mixed (by kernel_rfl) (by kernel_rfl) (by kernel_rfl) (by kernel_rfl) (by kernel_rfl) ?_
        refine TrOps.gF rfl rfl rfl rfl c11 rfl (by decide) ?_
        refine TrOps.sem (OpSem.pickF rfl rfl c11 rfl) rfl rfl (by decide) ?_
        refine TrOps.nil ?_
        refine At.seq ?_
        refine Tr.condF rfl rfl ?_
        refine Tr.exit ?_
        refine At.pass_exit ?_
        refine At.pass_exit ?_
        refine At.block_same ?_
        refine At.meet ?_
        exact .slot rfl (.refl _) <| .slot rfl (.refl _) <| .slot rfl (.refl _) <| .slot rfl (Le.i (by rw [he])) <| .mem rfl <| .nil
  · refine Tr.seq ?_
    refine PC.start [] ?_
    refine PC.sem (OpSem.move (.inl rfl) rfl) rfl rfl ?_
    refine PC.sem (OpSem.move (.inl rfl) rfl) rfl rfl ?_
    refine PC.sem (OpSem.move (.inl rfl) rfl) rfl rfl ?_
    refine PC.sem (OpSem.sliceH rfl rfl rfl es22 (by omega) (by omega)) rfl rfl ?_
    refine PC.semM (OpSem.appendNil 25 rfl rfl rfl es22 el22 zc57 rfl (by decide) by57 (by intro r hr; obtain ⟨y, _, rfl⟩ := List.mem_map.1 hr; simp [D.one, Value.oneCell']) (by simp [maxLen]; omega) (by simp; omega)) rfl rfl ?_
    refine PC.sem (OpSem.loadbN rfl rfl rfl vs57 (by first | decide | simp)) rfl rfl ?_
    refine PC.sem (OpSem.buildSlice rfl rfl es22 ze22 rfl rfl (by decide) (by decide) rfl rfl) rfl rfl ?_
    refine PC.done1 25 (.own 3 57 ((l.take ((cntL l x : Int)).toNat).map arcC)) mixed (by kernel_rfl) (by kernel_rfl) (by kernel_rfl) (by kernel_rfl) (by kernel_rfl) ?_
    refine TrOps.append rfl rfl rfl (by decide) rfl rfl rfl es22 el22 zc57 rfl by57 (by simp [D.one, Value.oneCell']) (by simp [maxLen]; omega) (by simp; omega) ?_
    refine TrOps.sem (OpSem.move (.inr rfl) rfl) rfl rfl (by decide) ?_
    refine TrOps.nil ?_
    refine At.seq ?_
    refine Tr.cut [(0, .d (arcsD l)), (5, .o 25), (6, I ((skpL l x : Int)))] [(25, .own 3 57 ((l.take (cntL l x) ++ [x]).map arcC))] ?_ ?_
    · refine Tr.seq ?_
      refine PC.start [] ?_
      refine PC.sem (OpSem.move (.inl rfl) rfl) rfl rfl ?_
      refine PC.sem (OpSem.move (.inl rfl) rfl) rfl rfl ?_
      refine PC.sem (OpSem.lenL rfl rfl es22) rfl rfl ?_
      refine PC.sem (OpSem.bin rfl rfl rfl blss) rfl rfl ?_
      refine PC.sem (OpSem.move (.inl rfl) rfl) rfl rfl ?_
      refine PC.split (n := 33) rfl (fun c33 => ?_) (fun c33 => ?_)
      · have hn : cntL l x < l.length := by simpa using c33
        refine PC.gT (OpSem.move (.inl rfl) rfl) rfl rfl rfl rfl c33 rfl ?_
        refine PC.gT (OpSem.move (.inl rfl) rfl) rfl rfl rfl rfl c33 rfl ?_
        refine PC.gT (OpSem.idxL rfl rfl rfl es22 (by omega) (by omega)) rfl rfl rfl rfl c33 rfl ?_
        refine PC.gT (OpSem.loadN rfl rfl vs57 (by first | decide | simp) rfl) rfl rfl rfl rfl c33 rfl ?_
        refine PC.gT (OpSem.loadbN rfl rfl rfl vs57 (by first | decide | simp)) rfl rfl rfl rfl c33 rfl ?_
        refine PC.done0 mixed (by kernel_rfl) (by kernel_rfl) (by kernel_rfl) (by kernel_rfl) (by kernel_rfl) ?_
        refine TrOps.gT rfl rfl rfl rfl c33 ?_
        refine TrOps.sem (OpSem.eqS3 rfl rfl rfl io57) rfl rfl (by decide) ?_
        refine TrOps.sem (OpSem.pickT rfl rfl c33 rfl) rfl rfl (by decide) ?_
        refine TrOps.nil ?_
        refine At.seq ?_
        refine Tr.cond rfl (fun c40 => ?_) (fun c40 => ?_)
        · have hq : nth l (cntL l x) = x := arc_ext (by simp at c40; exact c40.1) (by simp at c40; exact c40.2.1) (by simp at c40; exact c40.2.2)
          have he : skpL l x = cntL l x + 1 := by unfold skpL; rw [if_pos ⟨hn, hq⟩]
          refine Tr.region ?_
          refine TrOps.sem (OpSem.move (.inl rfl) rfl) rfl rfl (by decide) ?_
          refine TrOps.sem (OpSem.bin rfl rfl rfl (badd (by omega) (by omega))) rfl rfl (by decide) ?_
          refine TrOps.sem (OpSem.move (.inr rfl) rfl) rfl rfl (by decide) ?_
          refine TrOps.nil ?_
          refine At.meet ?_
          exact .slot rfl (.refl _) <| .slot rfl (.refl _) <| .slot rfl (Le.i (by rw [he]; omega)) <| .memEq rfl (by simp) <| .nil
        · have hq : nth l (cntL l x) ≠ x := fun h => by rw [h] at c40; simp at c40
          have he : skpL l x = cntL l x := by unfold skpL; rw [if_neg (fun h => hq h.2)]
          refine Tr.skip ?_
          refine At.meet ?_
          exact .slot rfl (.refl _) <| .slot rfl (.refl _) <| .slot rfl (Le.i (by rw [he])) <| .memEq rfl (by simp) <| .nil
      · have hn : ¬ cntL l x < l.length := by simpa using c33
        have he : skpL l x = cntL l x := by unfold skpL; rw [if_neg (fun h => hn h.1)]
        refine PC.gF rfl rfl rfl rfl c33 rfl ?_
        refine PC.gF rfl rfl rfl rfl c33 rfl ?_
        refine PC.gF rfl rfl rfl rfl c33 rfl ?_
        refine PC.gF rfl rfl rfl rfl c33 rfl ?_
        refine PC.gF rfl rfl rfl rfl c33 rfl ?_
        refine PC.done0 mixed (by kernel_rfl) (by kernel_rfl) (by kernel_rfl) (by kernel_rfl) (by kernel_rfl) ?_
        refine TrOps.gF rfl rfl rfl rfl c33 rfl (by decide) ?_
        refine TrOps.sem (OpSem.pickF rfl rfl c33 rfl) rfl rfl (by decide) ?_
        refine TrOps.nil ?_
        refine At.seq ?_
        refine Tr.condF rfl rfl ?_
        refine Tr.skip ?_
        refine At.meet ?_
        exact .slot rfl (.refl _) <| .slot rfl (.refl _) <| .slot rfl (Le.i (by rw [he])) <| .memEq rfl (by simp) <| .nil
    · refine Tr.seq ?_
      refine Tr.region ?_
      refine TrOps.sem (OpSem.move (.inl rfl) rfl) rfl rfl (by decide) ?_
      refine TrOps.sem (OpSem.move (.inl rfl) rfl) rfl rfl (by decide) ?_
      refine TrOps.sem (OpSem.move (.inl rfl) rfl) rfl rfl (by decide) ?_
      refine TrOps.sem (OpSem.sliceL rfl rfl rfl es22 (by omega) (by omega)) rfl rfl (by decide) ?_
      refine TrOps.append rfl rfl rfl (by decide) rfl rfl rfl es22 el22 zc57 rfl by57 (by intro r hr; obtain ⟨y, _, rfl⟩ := List.mem_map.1 hr; simp [D.one, Value.oneCell']) (by simp [maxLen]; omega) (by simp; omega) ?_
      refine TrOps.sem (OpSem.move (.inr rfl) rfl) rfl rfl (by decide) ?_
      refine TrOps.nil ?_
      refine At.seq ?_
      refine Tr.ret ?_
      exact At.retO2 rfl rfl rfl (by simp) (by simp [insL])

end Go.Proofs.Ythgcnfolgbaemaa
end
