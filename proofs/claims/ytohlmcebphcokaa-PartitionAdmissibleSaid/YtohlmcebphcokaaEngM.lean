/- Projections: what the package's functions answer; all states in order. Projections: the laws in plain words. -/
import Derived.Test.YtohlmcebphcokaaEngK
set_option linter.unusedVariables false
set_option linter.unusedSimpArgs false
set_option linter.unusedSectionVars false
namespace Go.Eng
open Go

/-! ### All states, in order -/
def expR (s : List Int) (c : Nat) : List (List Int) := (List.range c).map fun (v : Nat) => s ++ [(v : Int)]
theorem expR_s {s : List Int} {c : Nat} : expR s (c + 1) = expR s c ++ [s ++ [(c : Int)]] := by simp [expR, List.range_succ]
theorem expR_len {s : List Int} {c : Nat} : (expR s c).length = c := by simp [expR]
def expTo (l : List (List Int)) (c : Nat) : Nat → List (List Int)
  | 0 => []
  | i + 1 => expTo l c i ++ expR (nth l i) c
theorem expTo_len {l : List (List Int)} {c : Nat} : ∀ {i : Nat}, (expTo l c i).length = i * c
  | 0 => by simp [expTo]
  | i + 1 => by simp only [expTo, List.length_append, expR_len, expTo_len (i := i), Nat.succ_mul]
def statesTo (sizes : List Int) : Nat → List (List Int)
  | 0 => [[]]
  | k + 1 => expTo (statesTo sizes k) (nth sizes k).toNat (statesTo sizes k).length
theorem statesTo_len {sizes : List Int} (h : SizesP sizes) : ∀ {k : Nat}, k ≤ sizes.length → ((statesTo sizes k).length : Int) = ranksTo sizes k
  | 0, _ => rfl
  | k + 1, hk => by
    have ih := statesTo_len h (k := k) (by omega)
    have hz := h k (by omega)
    simp only [statesTo, expTo_len, ranksTo]
    rw [Int.natCast_mul, ih, Int.toNat_of_nonneg (by omega)]
theorem expTo_get {l : List (List Int)} {c : Nat} {v : Nat} (hv : v < c) : ∀ {k i : Nat}, i < k → nth (expTo l c k) ((i * c + v : Nat) : Int) = nth l i ++ [(v : Int)]
  | 0, i, hi => by omega
  | k + 1, i, hi => by
    have hl := expTo_len (l := l) (c := c) (i := k)
    have hlt : i * c + v < (expTo l c (k + 1)).length := by
      rw [expTo_len]
      have : (i + 1) * c ≤ (k + 1) * c := Nat.mul_le_mul_right c (by omega)
      rw [Nat.succ_mul] at this
      omega
    by_cases hik : i = k
    · subst hik
      rw [nth_eq hlt]
      simp only [expTo]
      rw [List.getElem_append_right (by omega)]
      simp only [hl, Nat.add_sub_cancel_left, expR, List.getElem_map, List.getElem_range]
    · have h1 := expTo_get hv (l := l) (c := c) (k := k) (i := i) (by omega)
      have hlt' : i * c + v < (expTo l c k).length := by
        rw [hl]
        have : (i + 1) * c ≤ k * c := Nat.mul_le_mul_right c (by omega)
        rw [Nat.succ_mul] at this
        omega
      rw [← h1, nth_eq hlt, nth_eq hlt']
      simp only [expTo]
      rw [List.getElem_append_left hlt']
/-- The first places of a state. -/
abbrev PreP (sizes s : List Int) (k : Nat) : Prop := s.length = k ∧ ∀ v : Nat, v < k → 0 ≤ nth s v ∧ nth s v < nth sizes v
theorem nth_app1 {s t : List Int} {v : Nat} (h : v < s.length) : nth (s ++ t) v = nth s v := by
  rw [nth_eq (by simp; omega), nth_eq h, List.getElem_append_left h]
theorem nth_app2 {s : List Int} {x : Int} : nth (s ++ [x]) (s.length : Int) = x := by
  rw [nth_eq (by simp)]; simp
theorem rankTo_app {sizes s : List Int} {x : Int} : ∀ {k : Nat}, k ≤ s.length → rankTo sizes (s ++ [x]) k = rankTo sizes s k
  | 0, _ => rfl
  | k + 1, hk => by
    simp only [rankTo]
    rw [rankTo_app (k := k) (by omega), nth_app1 (by omega)]
theorem statesTo_at {sizes : List Int} (h : SizesP sizes) : ∀ {k : Nat}, k ≤ sizes.length → ∀ n : Nat, n < (statesTo sizes k).length → PreP sizes (nth (statesTo sizes k) n) k ∧ rankTo sizes (nth (statesTo sizes k) n) k = n
  | 0, _, n, hn => by
    have : n = 0 := by simp [statesTo] at hn; omega
    subst this
    refine ⟨⟨rfl, fun v hv => by omega⟩, rfl⟩
  | k + 1, hk, n, hn => by
    have ih := statesTo_at h (k := k) (by omega)
    have hz := h k (by omega)
    obtain ⟨c, hc⟩ : ∃ c : Nat, c = (nth sizes k).toNat := ⟨_, rfl⟩
    have hc0 : 0 < c := by omega
    have hcz : (c : Int) = nth sizes k := by omega
    simp only [statesTo] at hn ⊢
    rw [← hc] at hn ⊢
    rw [expTo_len] at hn
    have hdm := Nat.div_add_mod n c
    have hm := Nat.mod_lt n hc0
    have hd : n / c < (statesTo sizes k).length := (Nat.div_lt_iff_lt_mul hc0).2 hn
    have e : n = n / c * c + n % c := by rw [Nat.mul_comm]; exact hdm.symm
    obtain ⟨⟨h1, h2⟩, h3⟩ := ih (n / c) hd
    have hg := expTo_get (l := statesTo sizes k) hm hd
    rw [← e] at hg
    rw [hg]
    refine ⟨⟨by rw [List.length_append, h1]; rfl, fun v hv => ?_⟩, ?_⟩
    · by_cases hvk : v = k
      · subst hvk
        have : nth (nth (statesTo sizes v) ↑(n / c) ++ [((n % c : Nat) : Int)]) (v : Int) = ((n % c : Nat) : Int) := by
          have := nth_app2 (s := nth (statesTo sizes v) ↑(n / c)) (x := ((n % c : Nat) : Int))
          rwa [h1] at this
        rw [this]
        omega
      · rw [nth_app1 (by omega)]
        exact h2 v (by omega)
    · simp only [rankTo]
      rw [rankTo_app (by omega), h3]
      have : nth (nth (statesTo sizes k) ↑(n / c) ++ [((n % c : Nat) : Int)]) (k : Int) = ((n % c : Nat) : Int) := by
        have := nth_app2 (s := nth (statesTo sizes k) ↑(n / c)) (x := ((n % c : Nat) : Int))
        rwa [h1] at this
      rw [this, ← hcz]
      have : ((n / c * c + n % c : Nat) : Int) = n := by rw [← e]
      simpa using this
def statesL (sizes : List Int) : List (List Int) := statesTo sizes sizes.length
theorem statesL_len {m : Multi} (hv : Valid m) : (statesL m.sizes).length = nR m := by
  have := statesTo_len hv.sizes (Nat.le_refl _)
  have h2 := nR_in hv
  unfold statesL ranks at *
  omega
theorem statesL_at {m : Multi} (hv : Valid m) {n : Nat} (hn : n < nR m) : nth (statesL m.sizes) n = unrank m.sizes n := by
  have hl := statesL_len hv
  obtain ⟨⟨h1, h2⟩, h3⟩ := statesTo_at hv.sizes (Nat.le_refl _) n (by show n < (statesL m.sizes).length; omega)
  have hs : StateP m.sizes (nth (statesL m.sizes) n) := ⟨h1, fun v hv => h2 v (by have h1' : (nth (statesL m.sizes) n).length = m.sizes.length := h1; omega)⟩
  have hr : rank m.sizes (nth (statesL m.sizes) n) = n := by
    unfold rank
    rw [show (nth (statesL m.sizes) n).length = m.sizes.length from h1]
    exact h3
  have := unrank_rank hv.sizes hs
  rw [hr] at this
  exact this.symm

/-! ### The first estimates -/
def fillTo (m : Multi) (k : Nat) : List Int := (List.range (nR m)).map fun n => if n < k then (if holds (stAt m n) m.goal = true then 0 else 1000000000) else 0
theorem fillTo_len {m : Multi} {k : Nat} : (fillTo m k).length = nR m := by simp [fillTo]
theorem fillTo_0 {m : Multi} : fillTo m 0 = List.replicate (nR m) 0 := by
  refine List.ext_getElem (by simp [fillTo]) fun i h1 h2 => ?_
  simp [fillTo]
theorem fillTo_end {m : Multi} : fillTo m (nR m) = initC m (nR m) := by
  refine List.ext_getElem (by simp [fillTo, initC]) fun i h1 h2 => ?_
  have : i < nR m := by simpa [initC] using h2
  simp [fillTo, initC, this]
theorem fillTo_t {m : Multi} {k : Nat} (h : holds (stAt m k) m.goal = true) : fillTo m (k + 1) = fillTo m k := by
  refine List.ext_getElem (by simp [fillTo]) fun i h1 h2 => ?_
  simp only [fillTo, List.getElem_map, List.getElem_range]
  by_cases hi : i = k
  · subst hi; simp [h]
  · by_cases h3 : i < k
    · rw [if_pos (by omega), if_pos h3]
    · rw [if_neg (by omega), if_neg h3]
theorem fillTo_f {m : Multi} {k : Nat} (hk : k < nR m) (h : holds (stAt m k) m.goal = false) : fillTo m (k + 1) = setI (fillTo m k) k 1000000000 := by
  refine ext_get (by rw [setI_len, fillTo_len, fillTo_len]) fun i h1 => ?_
  rw [fillTo_len] at h1
  rw [nth_setI (by omega) (by rw [fillTo_len]; omega) (by omega), nth_eq (by rw [fillTo_len]; exact h1), nth_eq (by rw [fillTo_len]; exact h1)]
  simp only [fillTo, List.getElem_map, List.getElem_range]
  by_cases hi : i = k
  · subst hi; simp [h]
  · have hne : ¬ ((i : Int) = (k : Int)) := by omega
    simp only [if_neg hne]
    by_cases h3 : i < k
    · simp only [if_pos h3, if_pos (show i < k + 1 by omega)]
    · simp only [if_neg h3, if_neg (show ¬ i < k + 1 by omega)]

/-! ### The answers -/
def bigF (m : Multi) (vars : List Int) (f : Int × Int) : Int × Int := if f = (0, 0) ∧ 2000 < prodTo m.sizes vars vars.length then (10, -7) else f
def distF (m : Multi) (vars : List Int) : Int × Int := bigF m vars (projFault m vars)
def stpF (m : Multi) (vars s : List Int) : Int × Int := if stateFault m s = (0, 0) then patFault m.sizes vars (-8) else stateFault m s
def valF (m : Multi) (vars s : List Int) : Int × Int := bigF m vars (stpF m vars s)
noncomputable def distR (m : Multi) (vars : List Int) : List Int := if distF m vars = (0, 0) then costs (projM m vars) else []
def projR (m : Multi) (vars : List Int) : Multi := if projFault m vars = (0, 0) then projM m vars else ⟨[], [], [], []⟩
noncomputable def pval (m : Multi) (vars s : List Int) : Int := nth (costs (projM m vars)) (rank (projM m vars).sizes (sel s vars))
noncomputable def valR (m : Multi) (vars s : List Int) : Int := if valF m vars s = (0, 0) then pval m vars s else 0
theorem bigF_1 {m : Multi} {vars : List Int} {f : Int × Int} (h : f = (0, 0)) (hb : 2000 < prodTo m.sizes vars vars.length) : (10, -7) = bigF m vars f := by unfold bigF; rw [if_pos ⟨h, hb⟩]
theorem bigF_2 {m : Multi} {vars : List Int} {f : Int × Int} (h : ¬ (f = (0, 0) ∧ 2000 < prodTo m.sizes vars vars.length)) : f = bigF m vars f := by unfold bigF; rw [if_neg h]
theorem bigF_ok {m : Multi} {vars : List Int} {f : Int × Int} (h : bigF m vars f = (0, 0)) : f = (0, 0) ∧ prodTo m.sizes vars vars.length ≤ 2000 := by
  unfold bigF at h
  split at h
  · cases h
  · rename_i hn; exact ⟨h, Int.not_lt.1 fun hh => hn ⟨h, hh⟩⟩
theorem stpF_1 {m : Multi} {vars s : List Int} (h : stateFault m s = (0, 0)) : patFault m.sizes vars (-8) = stpF m vars s := by unfold stpF; rw [if_pos h]
theorem stpF_2 {m : Multi} {vars s : List Int} (h : stateFault m s ≠ (0, 0)) : stateFault m s = stpF m vars s := by unfold stpF; rw [if_neg h]
theorem patFault_ok2 {sizes vars : List Int} {i : Int} (h : (patFault sizes vars i).1 = 0) : vars.length ≠ 0 ∧ PatP sizes vars ∧ patFault sizes vars i = (0, 0) := by
  unfold patFault at h ⊢
  split at h
  · rename_i hp
    rw [if_pos hp]
    obtain ⟨a, b⟩ := patCode_ok hp
    exact ⟨a, b, rfl⟩
  · rename_i hp; exact absurd h hp
theorem stpF_ok {m : Multi} {vars s : List Int} (h : stpF m vars s = (0, 0)) : Valid m ∧ StateP m.sizes s ∧ vars.length ≠ 0 ∧ PatP m.sizes vars := by
  unfold stpF at h
  split at h
  · rename_i hs
    obtain ⟨a, b⟩ := stateFault_ok hs
    obtain ⟨c, d, _⟩ := patFault_ok2 (by rw [h])
    exact ⟨a, b, c, d⟩
  · rename_i hs; exact absurd h hs
theorem valF_ok {m : Multi} {vars s : List Int} (h : valF m vars s = (0, 0)) : Valid m ∧ StateP m.sizes s ∧ vars.length ≠ 0 ∧ PatP m.sizes vars ∧ prodTo m.sizes vars vars.length ≤ 2000 := by
  obtain ⟨a, b⟩ := bigF_ok h
  obtain ⟨c, d, e, f⟩ := stpF_ok a
  exact ⟨c, d, e, f, b⟩
theorem distF_ok {m : Multi} {vars : List Int} (h : distF m vars = (0, 0)) : Valid m ∧ vars.length ≠ 0 ∧ PatP m.sizes vars ∧ prodTo m.sizes vars vars.length ≤ 2000 := by
  obtain ⟨a, b⟩ := bigF_ok h
  obtain ⟨c, d, e, _⟩ := projFault_ok (m := m) (vars := vars) (by rw [a])
  exact ⟨c, d, e, b⟩
theorem projFault_code {m : Multi} {vars : List Int} (h : (projFault m vars).1 = 0) : projFault m vars = (0, 0) := (projFault_ok h).2.2.2
theorem stpF_code {m : Multi} {vars s : List Int} (h : (stpF m vars s).1 = 0) : stpF m vars s = (0, 0) := by
  unfold stpF at h ⊢
  split at h
  · rename_i hs
    rw [if_pos hs]; exact (patFault_ok2 h).2.2
  · rename_i hs
    rw [if_neg hs]; exact stateFault_code h
theorem bigF_code {m : Multi} {vars : List Int} {f : Int × Int} (hf : f.1 = 0 → f = (0, 0)) (h : (bigF m vars f).1 = 0) : bigF m vars f = (0, 0) := by
  unfold bigF at h ⊢
  split at h
  · cases h
  · rename_i hn; rw [if_neg hn]; exact hf h
theorem valF_code {m : Multi} {vars s : List Int} (h : (valF m vars s).1 = 0) : valF m vars s = (0, 0) := bigF_code stpF_code h
theorem distF_code {m : Multi} {vars : List Int} (h : (distF m vars).1 = 0) : distF m vars = (0, 0) := bigF_code projFault_code h
theorem nR_proj {m : Multi} {vars : List Int} (hv : Valid m) (h0 : vars.length ≠ 0) (hp : PatP m.sizes vars) (hb : prodTo m.sizes vars vars.length ≤ 2000) : nR (projM m vars) ≤ 2000 := by
  have := nR_in (valid_proj hv h0 hp)
  have := prod_ranks (m := m) (vars := vars)
  omega
def opTo (m : Multi) (vars : List Int) (k : Nat) : List MOp := (List.range k).map fun (i : Nat) => ⟨restr (nth m.ops i).pre vars, restr (nth m.ops i).post vars, (nth m.ops i).cost⟩
theorem opTo_s {m : Multi} {vars : List Int} {k : Nat} : opTo m vars (k + 1) = opTo m vars k ++ [⟨restr (nth m.ops k).pre vars, restr (nth m.ops k).post vars, (nth m.ops k).cost⟩] := by simp [opTo, List.range_succ]
theorem opTo_len {m : Multi} {vars : List Int} {k : Nat} : (opTo m vars k).length = k := by simp [opTo]
theorem opTo_end {m : Multi} {vars : List Int} : opTo m vars m.ops.length = (projM m vars).ops := ext_get (by rw [opTo_len, projM_ops]) fun i hi => by
  rw [opTo_len] at hi
  rw [projM_op hi, nth_eq (by rw [opTo_len]; exact hi)]
  simp [opTo]
theorem projR_1 {m : Multi} {vars : List Int} (h : projFault m vars ≠ (0, 0)) : projR m vars = ⟨[], [], [], []⟩ := by unfold projR; rw [if_neg h]
theorem projR_0 {m : Multi} {vars : List Int} (h : projFault m vars = (0, 0)) : projR m vars = projM m vars := by unfold projR; rw [if_pos h]
theorem distR_1 {m : Multi} {vars : List Int} (h : distF m vars ≠ (0, 0)) : distR m vars = [] := by unfold distR; rw [if_neg h]
theorem distR_0 {m : Multi} {vars : List Int} (h : distF m vars = (0, 0)) : distR m vars = costs (projM m vars) := by unfold distR; rw [if_pos h]
theorem valR_1 {m : Multi} {vars s : List Int} (h : valF m vars s ≠ (0, 0)) : valR m vars s = 0 := by unfold valR; rw [if_neg h]
theorem valR_0 {m : Multi} {vars s : List Int} (h : valF m vars s = (0, 0)) : valR m vars s = pval m vars s := by unfold valR; rw [if_pos h]
/-! ### Sets, and a number put into one -/
abbrev SetOk (n : Int) (l : List Int) (i : Nat) : Prop := 0 ≤ nth l i ∧ nth l i < n ∧ (0 < i → nth l (i - 1 : Int) < nth l i)
abbrev SetP (n : Int) (l : List Int) : Prop := ∀ i : Nat, i < l.length → SetOk n l i
theorem patCode_set1 {sizes vars : List Int} (h : vars.length ≠ 0) (hh : ¬ SetP sizes.length vars) : 5 = patCode sizes vars := by
  unfold patCode; rw [if_neg h, if_pos hh]
theorem patCode_set0 {sizes vars : List Int} (h : vars.length ≠ 0) (hh : SetP sizes.length vars) : 0 = patCode sizes vars := patCode_0 h hh
def addP (f : Int × Int) (sizes vars : List Int) (i : Int) : Int × Int := if f.1 = 0 ∧ patCode sizes vars ≠ 0 then (patCode sizes vars, i) else f
theorem addP_proj {m : Multi} {vars : List Int} : addP (validate m) m.sizes vars (-8) = projFault m vars := by
  unfold addP projFault patFault
  by_cases h : (validate m).1 = 0
  · rw [validate_code h]
    by_cases h2 : patCode m.sizes vars = 0 <;> simp [h2]
  · have : validate m ≠ (0, 0) := fun e => h (by rw [e])
    simp [h, this]
theorem addP_stp {m : Multi} {vars s : List Int} : addP (stateFault m s) m.sizes vars (-8) = stpF m vars s := by
  unfold addP stpF patFault
  by_cases h : (stateFault m s).1 = 0
  · rw [stateFault_code h]
    by_cases h2 : patCode m.sizes vars = 0 <;> simp [h2]
  · have : stateFault m s ≠ (0, 0) := fun e => h (by rw [e])
    simp [h, this]
def cutN (l : List Int) (n : Int) : Nat := (firstBad l.length (fun i => decide (nth l i < n))).getD l.length
theorem cutN_eq {l : List Int} {n : Int} {k : Nat} (hk : k ≤ l.length) (hi : ∀ j : Nat, j < k → nth l j < n) (hs : k < l.length → ¬ nth l k < n) : cutN l n = k := by
  unfold cutN
  by_cases h : k < l.length
  · rw [firstBad_some h (fun j hj => by simpa using hi j hj) (by simpa using hs h)]; rfl
  · have : k = l.length := by omega
    rw [firstBad_none (fun j hj => by simpa using hi j (by omega))]
    simp [this]
def withL (l : List Int) (n : Int) : List Int := l.take (cutN l n) ++ [n] ++ l.drop (if cutN l n < l.length ∧ nth l (cutN l n) = n then cutN l n + 1 else cutN l n)
theorem withL_t {l : List Int} {n : Int} {k : Nat} (h : cutN l n = k) (hk : k < l.length) (he : nth l k = n) : withL l n = l.take k ++ [n] ++ l.drop (k + 1) := by
  unfold withL; rw [h, if_pos ⟨hk, he⟩]
theorem withL_f {l : List Int} {n : Int} {k : Nat} (h : cutN l n = k) (he : ¬ (k < l.length ∧ nth l k = n)) : withL l n = l.take k ++ [n] ++ l.drop k := by
  unfold withL; rw [h, if_neg he]
theorem take_s {l : List Int} {k : Nat} (hk : k < l.length) : l.take (k + 1) = l.take k ++ [nth l k] := by
  rw [nth_eq hk, List.take_append_getElem]
theorem withL_mem {l : List Int} {n : Int} {i : Nat} (hi : i < l.length) : nth l i ∈ withL l n := by
  have hx : nth l i ∈ l := nth_mem (by omega) (by omega)
  generalize nth l i = x at hx ⊢
  unfold withL
  simp only [List.mem_append, List.mem_singleton]
  split
  · rename_i h
    have h1 : l = l.take (cutN l n) ++ (nth l (cutN l n) :: l.drop (cutN l n + 1)) := by
      rw [nth_eq h.1, ← List.drop_eq_getElem_cons h.1, List.take_append_drop]
    have hx' : x ∈ l.take (cutN l n) ++ (nth l (cutN l n) :: l.drop (cutN l n + 1)) := by rw [← h1]; exact hx
    simp only [List.mem_append, List.mem_cons] at hx'
    rcases hx' with hx' | hx' | hx'
    · exact .inl (.inl hx')
    · rw [h.2] at hx'; exact .inl (.inr hx')
    · exact .inr hx'
  · have hx' : x ∈ l.take (cutN l n) ++ l.drop (cutN l n) := by rw [List.take_append_drop]; exact hx
    simp only [List.mem_append] at hx'
    rcases hx' with hx' | hx'
    · exact .inl (.inl hx')
    · exact .inr hx'
theorem withL_len {l : List Int} {n : Int} : (withL l n).length ≤ l.length + 1 := by
  unfold withL
  split <;> simp <;> omega
/-- Values that are known. -/
theorem valR_in {m : Multi} {vars s : List Int} : 0 ≤ valR m vars s ∧ valR m vars s ≤ 1000000000 := by
  unfold valR
  split
  · rename_i h
    obtain ⟨hv, hs, h0, hp, hb⟩ := valF_ok h
    have hv' := valid_proj hv h0 hp
    have hst : StateP (projM m vars).sizes (sel s vars) := sel_state hp hs
    have hr := rank_in hv'.sizes hst
    have hN := nR_in hv'
    exact (costs_good hv').2 _ hr.1 (by omega)
  · omega
end Go.Eng

set_option linter.unusedVariables false
set_option linter.unusedSimpArgs false
set_option linter.unusedSectionVars false
namespace Go.Eng
open Go
theorem stpF_state {m : Multi} {vars s : List Int} (h : stpF m vars s = (0, 0)) : stateFault m s = (0, 0) := by
  unfold stpF at h
  split at h
  · assumption
  · rename_i hn; exact absurd h hn
theorem valF_state {m : Multi} {vars s : List Int} (h : valF m vars s = (0, 0)) : stateFault m s = (0, 0) := stpF_state (bigF_ok h).1
theorem validate_of {m : Multi} (hv : Valid m) : validate m = (0, 0) := by
  have h1 : ¬ (m.sizes.length = 0 ∨ 8 < m.sizes.length) := by have := hv.len; omega
  have h3 : isState m.sizes m.init = true := (isState_true hv.init).symm
  have h4 : assigns m.sizes m.goal = true := (assigns_true hv.goal).symm
  exact (validate_8 h1 hv.sizes h3 h4 (by have := hv.opsLen; omega) (fun j hj => by
    have := hv.op j hj
    exact opFault_0 ⟨(assigns_true this.1).symm, (assigns_true this.2.1).symm⟩ this.2.2)).symm
theorem stateFault_of {m : Multi} {s : List Int} (hv : Valid m) (hs : StateP m.sizes s) : stateFault m s = (0, 0) := by
  unfold stateFault
  rw [if_pos (validate_of hv), if_pos (isState_true hs).symm]
theorem valF_of {m : Multi} {vars s : List Int} (hv : Valid m) (hs : StateP m.sizes s) (h0 : vars.length ≠ 0) (hp : PatP m.sizes vars) (hb : prodTo m.sizes vars vars.length ≤ 2000) : valF m vars s = (0, 0) := by
  have h1 : stpF m vars s = (0, 0) := by
    rw [← stpF_1 (stateFault_of hv hs)]
    unfold patFault
    rw [if_pos (patCode_0 h0 hp).symm]
  unfold valF
  rw [← bigF_2 (fun h => by omega)]
  exact h1
theorem val_le {m : Multi} {vars s : List Int} (h : valF m vars s = (0, 0)) : valR m vars s ≤ nth (costs m) (rank m.sizes s) := by
  obtain ⟨hv, hs, h0, hp, _⟩ := valF_ok h
  rw [valR_0 h]
  exact proj_le hv h0 hp hs
theorem val_all {m : Multi} {s : List Int} (hv : Valid m) (hs : StateP m.sizes s) (hb : ranks m.sizes ≤ 300) : valF m (allV m.sizes.length) s = (0, 0) ∧ valR m (allV m.sizes.length) s = nth (costs m) (rank m.sizes s) := by
  have hl := hv.len
  have hF : valF m (allV m.sizes.length) s = (0, 0) := valF_of hv hs (by rw [allV_len]; omega) allV_pat (by rw [prod_ranks, projM_all hv]; omega)
  refine ⟨hF, ?_⟩
  rw [valR_0 hF]
  unfold pval
  rw [projM_all hv, ← hs.1, sel_all]
theorem val_mono {m : Multi} {vars s : List Int} {v : Int} (h : valF m vars s = (0, 0)) (h2 : valF m (withL vars v) s = (0, 0)) : valR m vars s ≤ valR m (withL vars v) s := by
  obtain ⟨hv, hs, h0, hp, _⟩ := valF_ok h
  obtain ⟨_, _, hW0, hW, _⟩ := valF_ok h2
  rw [valR_0 h, valR_0 h2]
  exact proj_mono hv hW0 h0 hW hp (fun i hi => withL_mem hi) hs
theorem pval_next {m : Multi} {vars s : List Int} {op : Int} (h : valF m vars s = (0, 0)) (ha : (applyF m s op).1 = 0) : valF m vars (applyS m s op) = (0, 0) ∧ valR m vars s ≤ valR m vars (applyS m s op) + (nth m.ops op).cost := by
  obtain ⟨hv, hs, h0, hp, hb⟩ := valF_ok h
  obtain ⟨_, _, ho0, ho1, hpre⟩ := applyF_ok ha
  have hF : applyF m s op = (0, 0) := by
    rw [← applyF_0 (stateFault_of hv hs) (by omega) hpre]
  have hn := applyS_0 hF.symm
  have ho := nth_op hv ho0 ho1
  have hns := nextS_in hs ho.2.1
  rw [hn]
  have hF2 := valF_of hv hns h0 hp hb
  refine ⟨hF2, ?_⟩
  rw [valR_0 h, valR_0 hF2]
  have := proj_tri hv h0 hp hs (j := op.toNat) (by omega) (by rw [Int.toNat_of_nonneg ho0]; exact hpre)
  rwa [Int.toNat_of_nonneg ho0] at this
theorem lamps_valid : Valid lampsM := valid_of (by decide +kernel)
theorem ex_projF : projFault lampsM [1] = (0, 0) := by decide +kernel
theorem ex_distF : distF lampsM [1] = (0, 0) := by decide +kernel
theorem ex_valF : valF lampsM [0, 1] [0, 0] = (0, 0) := by decide +kernel
theorem ex_proj : projR lampsM [1] = ⟨[2], [0], [(0, 1)], [⟨[], [], 2⟩, ⟨[], [(0, 1)], 3⟩]⟩ := by rw [projR_0 ex_projF]; rfl
theorem ex_dist : distR lampsM [1] = [3, 0] := by
  rw [distR_0 ex_distF]
  have hv : Valid (projM lampsM [1]) := valid_proj lamps_valid (by decide) (by decide +kernel)
  rw [← costs_of hv (j := 2) (by decide +kernel)]
  decide +kernel
theorem ex_val : valR lampsM [0, 1] [0, 0] = 5 := by
  rw [valR_0 ex_valF]
  have hv : Valid (projM lampsM [0, 1]) := valid_proj lamps_valid (by decide) (by decide +kernel)
  unfold pval
  rw [← costs_of hv (j := 3) (by decide +kernel)]
  decide +kernel
end Go.Eng
