/- Plain functions: a state behind an operator. -/
import Derived.Test.YtohlmcebphcokaaEngQ
set_option linter.unusedVariables false
set_option linter.unusedSimpArgs false
namespace Go.Eng
open Go

theorem rows_get {α : Type} [Inhabited α] {l : List α} {f : α → List D} {n : Int} (h0 : 0 ≤ n) (h1 : n < l.length) : (l.map f)[n.toNat]? = some (f (nth l n)) := by
  have hk : n.toNat < l.length := by omega
  simp only [List.getElem?_map, List.getElem?_eq_getElem hk, Option.map_some]
  rw [← nth_eq hk, Int.toNat_of_nonneg h0]
theorem rows_getN {α : Type} [Inhabited α] {l : List α} {f : α → List D} {n : Nat} (h1 : n < l.length) : (l.map f)[n]? = some (f (nth l n)) := by
  have := rows_get (f := f) (n := (n : Int)) (l := l) (by omega) (by omega)
  simpa using this
/-- A list with one place set. -/
def setI {α : Type} (l : List α) (i : Int) (v : α) : List α := l.set i.toNat v
theorem rows_set {α : Type} {l : List α} {f : α → List D} {i : Nat} {v : α} : (l.map f).set i (f v) = (l.set i v).map f := by rw [List.map_set]
theorem setI_len {α : Type} {l : List α} {i : Int} {v : α} : (setI l i v).length = l.length := by simp [setI]
theorem nth_setI {α : Type} [Inhabited α] {l : List α} {i : Int} {v : α} {n : Int} (h0 : 0 ≤ n) (h1 : n < l.length) (hi : 0 ≤ i) : nth (setI l i v) n = if n = i then v else nth l n := by
  have e1 : nth (setI l i v) n = nth (setI l i v) (n.toNat : Int) := by rw [Int.toNat_of_nonneg h0]
  have e2 : nth l n = nth l (n.toNat : Int) := by rw [Int.toNat_of_nonneg h0]
  rw [e1, e2, nth_eq (by rw [setI_len]; omega), nth_eq (by omega)]
  simp only [setI, List.getElem_set]
  by_cases h : n = i
  · rw [if_pos (by rw [h]), if_pos h]
  · rw [if_neg (by omega), if_neg h]
/-- The state behind the first k assignments. -/
def nextTo (s : List Int) (l : List Asg) : Nat → List Int
  | 0 => s
  | k + 1 => setI (nextTo s l k) (nth l k).1 (nth l k).2
theorem nextTo_len {s : List Int} {l : List Asg} : ∀ {k : Nat}, (nextTo s l k).length = s.length
  | 0 => rfl
  | k + 1 => by simp only [nextTo, setI_len]; exact nextTo_len
def nextS (s : List Int) (l : List Asg) : List Int := nextTo s l l.length
theorem nextTo_in {sizes s : List Int} {l : List Asg} (hs : StateP sizes s) (hl : AsgsP sizes l) : ∀ k : Nat, k ≤ l.length → StateP sizes (nextTo s l k)
  | 0, _ => hs
  | k + 1, hk => by
    have ih := nextTo_in hs hl k (by omega)
    have ha := hl k (by omega)
    refine ⟨by rw [nextTo_len]; exact hs.1, fun v hv => ?_⟩
    rw [nextTo_len] at hv
    have hv' := ih.2 v (by rw [nextTo_len]; exact hv)
    simp only [nextTo]
    rw [nth_setI (by omega) (by rw [nextTo_len]; omega) ha.1]
    split
    · rename_i e; rw [e]; exact ⟨ha.2.2.1, ha.2.2.2.1⟩
    · exact hv'
theorem nextS_in {sizes s : List Int} {l : List Asg} (hs : StateP sizes s) (hl : AsgsP sizes l) : StateP sizes (nextS s l) := nextTo_in hs hl _ (Nat.le_refl _)
/-- All assignments hold in the state. -/
def holds (s : List Int) (l : List Asg) : Bool := !(l.any fun a => !decide (nth s a.1 = a.2))
theorem holds_iff {s : List Int} {l : List Asg} : holds s l = true ↔ ∀ k : Nat, k < l.length → nth s (nth l k).1 = (nth l k).2 := by
  unfold holds
  rw [Bool.not_eq_true', ← Bool.not_eq_true, any_iff]
  constructor
  · intro h k hk
    exact Decidable.byContradiction fun hc => h ⟨k, hk, by simp [hc]⟩
  · rintro h ⟨k, hk, hp⟩
    simp [h k hk] at hp
theorem holds_1 {s : List Int} {l : List Asg} {k : Nat} (hk : k < l.length) (h : nth s (nth l k).1 ≠ (nth l k).2) : false = holds s l := by
  cases hh : holds s l with
  | false => rfl
  | true => exact absurd (holds_iff.1 hh k hk) h
theorem holds_0 {s : List Int} {l : List Asg} (h : ∀ k : Nat, k < l.length → nth s (nth l k).1 = (nth l k).2) : true = holds s l := (holds_iff.2 h).symm
theorem caught_p (l : List D) : Caught [.p l] := by
  intro n hn
  obtain ⟨m, rfl⟩ : ∃ m, n = m + 1 := ⟨n - 1, by omega⟩
  rfl
theorem asgs_mem {sizes : List Int} {l : List Asg} (h : AsgsP sizes l) {x : Asg} (hx : x ∈ l) : 0 ≤ x.1 ∧ x.1 < sizes.length ∧ 0 ≤ x.2 := by
  obtain ⟨k, hk, rfl⟩ := List.getElem_of_mem hx
  have := h k hk
  rw [AsgOk, nth_eq hk] at this
  exact ⟨this.1, this.2.1, this.2.2.1⟩
/-- An operator applied: the fault, and the state behind it. -/
def applyF (m : Multi) (s : List Int) (op : Int) : Int × Int :=
  if stateFault m s = (0, 0) then
    if op < 0 ∨ m.ops.length ≤ op then (3, -6) else if holds s (nth m.ops op).pre = true then (0, 0) else (11, op)
  else stateFault m s
def applyS (m : Multi) (s : List Int) (op : Int) : List Int := if applyF m s op = (0, 0) then nextS s (nth m.ops op).post else []
theorem applyF_ok {m : Multi} {s : List Int} {op : Int} (h : (applyF m s op).1 = 0) : Valid m ∧ StateP m.sizes s ∧ 0 ≤ op ∧ op < m.ops.length ∧ holds s (nth m.ops op).pre = true := by
  unfold applyF at h
  split at h
  · rename_i h0
    obtain ⟨hv, hs⟩ := stateFault_ok h0
    split at h
    · cases h
    · rename_i h1
      split at h
      · rename_i h2; exact ⟨hv, hs, by omega, by omega, h2⟩
      · cases h
  · rename_i h0; exact absurd (stateFault_code h) h0
theorem applyF_1 {m : Multi} {s : List Int} {op : Int} (h : (stateFault m s).1 ≠ 0) : stateFault m s = applyF m s op := by unfold applyF; rw [if_neg (fun e => h (by rw [e]))]
theorem applyF_2 {m : Multi} {s : List Int} {op : Int} (h : stateFault m s = (0, 0)) (h1 : op < 0 ∨ m.ops.length ≤ op) : (3, -6) = applyF m s op := by unfold applyF; rw [if_pos h, if_pos h1]
theorem applyF_3 {m : Multi} {s : List Int} {op : Int} (h : stateFault m s = (0, 0)) (h1 : ¬ (op < 0 ∨ m.ops.length ≤ op)) (h2 : holds s (nth m.ops op).pre = false) : (11, op) = applyF m s op := by unfold applyF; rw [if_pos h, if_neg h1, if_neg (by simp [h2])]
theorem applyF_0 {m : Multi} {s : List Int} {op : Int} (h : stateFault m s = (0, 0)) (h1 : ¬ (op < 0 ∨ m.ops.length ≤ op)) (h2 : holds s (nth m.ops op).pre = true) : (0, 0) = applyF m s op := by unfold applyF; rw [if_pos h, if_neg h1, if_pos h2]
theorem applyS_1 {m : Multi} {s : List Int} {op : Int} (h : (applyF m s op).1 ≠ 0) : applyS m s op = [] := by unfold applyS; rw [if_neg (fun e => h (by rw [e]))]
theorem applyS_0 {m : Multi} {s : List Int} {op : Int} (h : (0, 0) = applyF m s op) : applyS m s op = nextS s (nth m.ops op).post := by unfold applyS; rw [if_pos h.symm]
theorem nth_op {m : Multi} (hv : Valid m) {op : Int} (h0 : 0 ≤ op) (h1 : op < m.ops.length) : AsgsP m.sizes (nth m.ops op).pre ∧ AsgsP m.sizes (nth m.ops op).post ∧ 0 ≤ (nth m.ops op).cost ∧ (nth m.ops op).cost ≤ 100 := by
  have := hv.op op.toNat (by omega)
  rwa [Int.toNat_of_nonneg h0] at this
end Go.Eng
