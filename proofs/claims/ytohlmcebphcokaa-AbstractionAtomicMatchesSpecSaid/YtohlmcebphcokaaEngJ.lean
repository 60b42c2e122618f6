/- Plain functions behind project's laws: patterns and what they leave. -/
import Derived.Test.YtohlmcebphcokaaEngC
set_option linter.unusedVariables false
set_option linter.unusedSimpArgs false
set_option linter.unusedSectionVars false
namespace Go.Eng
open Go

abbrev PatOk (sizes vars : List Int) (i : Nat) : Prop := 0 ≤ nth vars i ∧ nth vars i < sizes.length ∧ (0 < i → nth vars (i - 1 : Int) < nth vars i)
abbrev PatP (sizes vars : List Int) : Prop := ∀ i : Nat, i < vars.length → PatOk sizes vars i
def patCode (sizes vars : List Int) : Int := if vars.length = 0 then 9 else if ¬ PatP sizes vars then 5 else 0
theorem patCode_9 {sizes vars : List Int} (h : vars.length = 0) : 9 = patCode sizes vars := by unfold patCode; rw [if_pos h]
theorem patCode_5 {sizes vars : List Int} (h : vars.length ≠ 0) (k : Nat) (hk : k < vars.length) (hb : ¬ PatOk sizes vars k) : 5 = patCode sizes vars := by
  unfold patCode; rw [if_neg h, if_pos (fun hh => hb (hh k hk))]
theorem patCode_0 {sizes vars : List Int} (h : vars.length ≠ 0) (hh : PatP sizes vars) : 0 = patCode sizes vars := by unfold patCode; rw [if_neg h, if_neg (by simpa using hh)]
theorem patCode_ok {sizes vars : List Int} (h : patCode sizes vars = 0) : vars.length ≠ 0 ∧ PatP sizes vars := by
  unfold patCode at h
  split at h
  · cases h
  · rename_i h1
    split at h
    · cases h
    · rename_i h2; exact ⟨h1, Decidable.not_not.1 h2⟩
def patFault (sizes vars : List Int) (i : Int) : Int × Int := if patCode sizes vars = 0 then (0, 0) else (patCode sizes vars, i)
theorem patFault_bad {sizes vars : List Int} {c i : Int} (h : c = patCode sizes vars) (hc : c ≠ 0) : (c, i) = patFault sizes vars i := by unfold patFault; rw [if_neg (by rw [← h]; exact hc), ← h]
theorem patFault_ok {sizes vars : List Int} {i : Int} (h : 0 = patCode sizes vars) : (0, 0) = patFault sizes vars i := by unfold patFault; rw [if_pos h.symm]
/-- The places of a pattern, out of a list. -/
def sel (s vars : List Int) : List Int := vars.map fun v => nth s v
def selTo (s vars : List Int) (k : Nat) : List Int := (List.range k).map fun (i : Nat) => nth s (nth vars i)
theorem selTo_s {s vars : List Int} {k : Nat} : selTo s vars (k + 1) = selTo s vars k ++ [nth s (nth vars k)] := by simp [selTo, List.range_succ]
theorem selTo_len {s vars : List Int} {k : Nat} : (selTo s vars k).length = k := by simp [selTo]
/-- The fault of a task and a pattern. -/
def projFault (m : Multi) (vars : List Int) : Int × Int := if validate m = (0, 0) then patFault m.sizes vars (-8) else validate m
theorem projFault_1 {m : Multi} {vars : List Int} (h : validate m = (0, 0)) : patFault m.sizes vars (-8) = projFault m vars := by unfold projFault; rw [if_pos h]
theorem projFault_2 {m : Multi} {vars : List Int} (h : validate m ≠ (0, 0)) : validate m = projFault m vars := by unfold projFault; rw [if_neg h]
theorem projFault_ok {m : Multi} {vars : List Int} (h : (projFault m vars).1 = 0) : Valid m ∧ vars.length ≠ 0 ∧ PatP m.sizes vars ∧ projFault m vars = (0, 0) := by
  unfold projFault at h ⊢
  split at h
  · rename_i hv
    rw [if_pos hv]
    unfold patFault at h ⊢
    split at h
    · rename_i hp
      rw [if_pos hp]
      obtain ⟨a, b⟩ := patCode_ok hp
      exact ⟨valid_of hv, a, b, rfl⟩
    · rename_i hp; exact absurd h hp
  · rename_i hv; exact absurd (validate_code h) hv
theorem pat_ge {sizes vars : List Int} (h : PatP sizes vars) : ∀ i : Nat, i < vars.length → (i : Int) ≤ nth vars i
  | 0, hi => by simpa using (h 0 hi).1
  | i + 1, hi => by
    have ih := pat_ge h i (by omega)
    have := (h (i + 1) hi).2.2 (by omega)
    have e : ((i + 1 : Nat) : Int) - 1 = (i : Int) := by omega
    rw [e] at this
    omega
theorem pat_len {sizes vars : List Int} (h : PatP sizes vars) : vars.length ≤ sizes.length := by
  by_cases hl : vars.length = 0
  · omega
  · have := pat_ge h (vars.length - 1) (by omega)
    have := (h (vars.length - 1) (by omega)).2.1
    omega
def prodTo (sizes vars : List Int) : Nat → Int
  | 0 => 1
  | k + 1 => prodTo sizes vars k * nth sizes (nth vars k)
theorem prodTo_in {sizes vars : List Int} (h : SizesP sizes) (hp : PatP sizes vars) : ∀ {k : Nat}, k ≤ vars.length → 1 ≤ prodTo sizes vars k ∧ prodTo sizes vars k ≤ 6 ^ k
  | 0, _ => by simp [prodTo]
  | k + 1, hk => by
    have ih := prodTo_in h hp (k := k) (by omega)
    have hs := nth_size h (hp k (by omega)).1 (hp k (by omega)).2.1
    simp only [prodTo]
    constructor
    · have := Int.mul_le_mul ih.1 hs.1 (by omega) (by omega)
      omega
    · have := Int.mul_le_mul ih.2 hs.2 (by omega) (by omega)
      rw [Int.pow_succ]; exact this
/-- An assignment under a pattern: at the places of its variable. -/
def matchR (a : Asg) (vars : List Int) : Nat → List Asg
  | 0 => []
  | j + 1 => if a.1 = nth vars j then matchR a vars j ++ [((j : Int), a.2)] else matchR a vars j
theorem matchR_len {a : Asg} {vars : List Int} : ∀ {j : Nat}, (matchR a vars j).length ≤ j
  | 0 => by simp [matchR]
  | j + 1 => by
    have := matchR_len (a := a) (vars := vars) (j := j)
    simp only [matchR]
    split
    · simp; omega
    · omega
def restrictTo (l : List Asg) (vars : List Int) : Nat → List Asg
  | 0 => []
  | k + 1 => restrictTo l vars k ++ matchR (nth l k) vars vars.length
theorem restrictTo_len {l : List Asg} {vars : List Int} : ∀ {k : Nat}, (restrictTo l vars k).length ≤ k * vars.length
  | 0 => by simp [restrictTo]
  | k + 1 => by
    have := restrictTo_len (l := l) (vars := vars) (k := k)
    have := matchR_len (a := nth l k) (vars := vars) (j := vars.length)
    simp only [restrictTo, List.length_append, Nat.succ_mul]
    omega
def matchK (v i : Int) (l : List Asg) : Nat → List Asg
  | 0 => []
  | j + 1 => if (nth l j).1 = v then matchK v i l j ++ [(i, (nth l j).2)] else matchK v i l j
theorem matchK_len {v i : Int} {l : List Asg} : ∀ {j : Nat}, (matchK v i l j).length ≤ j
  | 0 => by simp [matchK]
  | j + 1 => by
    have := matchK_len (v := v) (i := i) (l := l) (j := j)
    simp only [matchK]
    split
    · simp; omega
    · omega
def keptTo (l : List Asg) (vars : List Int) : Nat → List Asg
  | 0 => []
  | k + 1 => keptTo l vars k ++ matchK (nth vars k) k l l.length
theorem keptTo_len {l : List Asg} {vars : List Int} : ∀ {k : Nat}, (keptTo l vars k).length ≤ k * l.length
  | 0 => by simp [keptTo]
  | k + 1 => by
    have := keptTo_len (l := l) (vars := vars) (k := k)
    have := matchK_len (v := nth vars k) (i := k) (l := l) (j := l.length)
    simp only [keptTo, List.length_append, Nat.succ_mul]
    omega
end Go.Eng
