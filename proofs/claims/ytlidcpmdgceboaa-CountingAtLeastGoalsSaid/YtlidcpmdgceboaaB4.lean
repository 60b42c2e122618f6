/- The engine and the walks that this claim uses, part 4. Written by prune.py out of our own texts. -/
import Derived.Test.YtlidcpmdgceboaaB3
section
/- Walks, written by gen.py out of hints. -/



set_option linter.unusedVariables false
set_option linter.unusedSimpArgs false
namespace Go.Proofs.Ytlidcpmdgceboaa
open Go.Eng
set_option maxRecDepth 10000
set_option maxHeartbeats 1000000

theorem slices_IndexFunc_Operator_Operator_does (l : List SOp) (fn : Nat) (cs : List S) (p : SOp → Bool) (hcs : Caught cs) (hf : ∀ x, x ∈ l → Does Try.prog false fn ([sopS x] ++ cs) (Bo (p x))) : Does Try.prog false 63 [.d (sopsD l), .f fn [] cs] (I (findI p l)) := by
 refine Does.of_body Try.func63 rfl rfl (by simp) Try.call63 (fun w0 O0 => ?_); refine .lenLe (n := 0) rfl (fun len0 => ?_); refine .seq ?_; refine .region ?_; refine .a ?_; refine .sq ?_; refine .seq ?_; refine .seq ?_; refine .region ?_; refine .m ?_; refine .x (OpSem.lenL rfl rfl es23) ?_; refine .m ?_; refine .sq ?_; refine .block ?_; refine .loop (X := Nat) (fun k => k ≤ l.length ∧ ∀ j : Nat, j < k → p (nth l j) = false) (fun k => [(0, .d (sopsD l)), (1, .f fn [] cs), (7, I (l.length)), (8, I (k))]) (fun k => []) (fun k => l.length - k) 0 ⟨by omega, by simp⟩ ?_ ?_
 ·exact .slot rfl (.refl _) <| .slot rfl (.refl _) <| .slot rfl (.refl _) <| .slot rfl (Le.of_eq (by simp)) <| .nil
 ·rintro k ⟨hkl, hinv⟩
  refine .seq ?_; refine .region ?_; refine .x (.b blss) ?_; refine .sq ?_; refine .seq ?_; refine .cond rfl (fun c9 => ?_) (fun c9 => ?_)
  ·have hk : k < l.length := by simpa using c9
   refine .skip ?_; refine .seq ?_; refine .seq ?_; refine .block ?_; refine .seq ?_; refine .region ?_; refine .m ?_; refine .a ?_; refine .z ?_; refine .m ?_; refine .m ?_; refine .m ?_; refine .x (OpSem.idxL rfl rfl rfl es23 (by omega) (by omega)) ?_; refine .x (OpSem.loadN rfl rfl vs35 (by first | decide | simp) rfl) ?_; refine .x (OpSem.call0 (hf _ (nth_mem (by omega) (by omega))) rfl rfl rfl (hcs.app rfl) (Les.refl _)) ?_; refine .sq ?_; refine .cond rfl (fun c16 => ?_) (fun c16 => ?_)
   ·refine .seq ?_; refine .region ?_; refine .m ?_; refine .a ?_; refine .sq ?_; refine .ret ?_; refine .block_ret ?_; refine .pass_ret ?_; refine .pass_ret ?_; refine .block_ret ?_; refine .pass_ret ?_; exact .ret rfl (.tmp rfl <| .nil) rfl (Le.i (findI_some hk hinv c16).symm)
   ·refine .skip ?_; refine .block_normal ?_; refine .y ?_; refine .x .ad ?_; refine .m ?_; refine .nil ?_; refine .again (k + 1) ⟨by omega, all_succ hinv c16⟩ ?_ (by omega); exact .slot rfl (.refl _) <| .slot rfl (.refl _) <| .slot rfl (.refl _) <| .slot rfl (Le.of_eq (by simp)) <| .nil
  ·have hk : k = l.length := by simp at c9; omega
   refine .exit ?_; refine .pass_exit ?_; refine .pass_exit ?_; refine .block_same ?_; refine .z ?_; refine .a ?_; refine .sq ?_; refine .ret ?_; exact .ret rfl (.tmp rfl <| .nil) rfl (Le.i (by subst hk; exact (findI_none hinv).symm))

theorem slices_ContainsFunc_Operator_Operator_does (l : List SOp) (fn : Nat) (cs : List S) (p : SOp → Bool) (hcs : Caught cs) (hf : ∀ x, x ∈ l → Does Try.prog false fn ([sopS x] ++ cs) (Bo (p x))) : Does Try.prog false 29 [.d (sopsD l), .f fn [] cs] (Bo (l.any p)) := by
 refine Does.of_body Try.func29 rfl rfl (by simp) Try.call29 (fun w0 O0 => ?_); refine .lenLe (n := 0) rfl (fun len0 => ?_); refine .seq ?_; refine .region ?_; refine .a ?_; refine .z ?_; refine .m ?_; refine .m ?_; refine .x (OpSem.call0 (slices_IndexFunc_Operator_Operator_does l fn cs p hcs hf) rfl rfl rfl (hcs.arg rfl) (Les.refl _)) ?_; refine .x (.b bgeq) ?_; refine .a ?_; refine .sq ?_; refine .ret ?_; exact .ret rfl (.tmp rfl <| .nil) rfl (Le.bo findI_any)

theorem counting_Program_1_does (o : SOp) : Does Try.prog false 30 [sopS o] (Bo (decide (20 < o.cost))) := by
 refine Does.of_body Try.func30 rfl rfl (by simp) Try.call30 (fun w0 O0 => ?_); refine .lenG (n := 0) (i := 0) rfl rfl (fun len0_0 => ?_); refine .lenG (n := 0) (i := 1) rfl rfl (fun len0_1 => ?_); refine .lenG (n := 0) (i := 2) rfl rfl (fun len0_2 => ?_); refine .seq ?_; refine .region ?_; refine .semM (OpSem.box 1 rfl rfl rfl rfl) rfl rfl (by decide) ?_; refine .a ?_; refine .z ?_; refine .x (.f fo35_3) ?_; refine .x (.l vs3) ?_; refine .x (.b bgtr) ?_; refine .a ?_; refine .sq ?_; refine .ret ?_; exact .ret rfl (.tmp rfl <| .nil) rfl (Le.bo (by simp))

theorem counting_change_does (o : SOp) (p : Int) : Does Try.prog false 31 [sopS o, I (p)] (I (chgO o p)) := by
 refine Does.of_body Try.func31 rfl rfl (by simp) Try.call31 (fun w0 O0 => ?_); refine .lenG (n := 0) (i := 0) rfl rfl (fun len0_0 => ?_); refine .lenG (n := 0) (i := 1) rfl rfl (fun len0_1 => ?_); refine .lenG (n := 0) (i := 2) rfl rfl (fun len0_2 => ?_); refine .seq ?_; refine .region ?_; refine .semM (OpSem.box 2 rfl rfl rfl rfl) rfl rfl (by decide) ?_; refine .a ?_; refine .z ?_; refine .x (.f fo35_0) ?_; refine .x (.l vs22) ?_; refine .m ?_; refine .x (OpSem.call0 (slices_Contains_int_int_does o.pre p) rfl rfl rfl rfl (Les.refl _)) ?_; refine .a ?_; refine .sq ?_; refine .seq ?_; refine .block ?_; refine .seq ?_; refine .region ?_; refine .m ?_; refine .x (OpSem.not rfl rfl) ?_; refine .m ?_; refine .split (n := 13) rfl (fun c13 => ?_) (fun c13 => ?_)
 ·refine .gt c13 ?_; refine .x (.f fo35_1) ?_; refine .gt c13 ?_; refine .x (.l vs22) ?_; refine .gt c13 ?_; refine .m ?_; refine .gt c13 ?_; refine .x (OpSem.call0 (slices_Contains_int_int_does o.add p) rfl rfl rfl rfl (Les.refl _)) ?_; refine .x (OpSem.pickT rfl rfl c13 rfl) ?_; refine .a ?_; refine .sq ?_; refine .cond rfl (fun c10 => ?_) (fun c10 => ?_)
  ·refine .seq ?_; refine .region ?_; refine .a ?_; refine .sq ?_; refine .ret ?_; refine .block_ret ?_; refine .pass_ret ?_; exact .ret rfl (.tmp rfl <| .nil) rfl (Le.i (by first | exact chg_1 (by simp_all) (by simp_all) | exact chg_2 (by simp_all) (by simp_all) | exact chg_0 (by simp_all) (by simp_all)))
  ·refine .seq ?_; refine .region ?_; refine .m ?_; refine .m ?_; refine .split (n := 21) rfl (fun c21 => ?_) (fun c21 => ?_)
   ·refine .gt c21 ?_; refine .x (.f fo35_2) ?_; refine .gt c21 ?_; refine .x (.l vs22) ?_; refine .gt c21 ?_; refine .m ?_; refine .gt c21 ?_; refine .x (OpSem.call0 (slices_Contains_int_int_does o.del p) rfl rfl rfl rfl (Les.refl _)) ?_; refine .x (OpSem.pickT rfl rfl c21 rfl) ?_; refine .a ?_; refine .sq ?_; refine .cond rfl (fun c19 => ?_) (fun c19 => ?_)
    ·refine .seq ?_; refine .region ?_; refine .a ?_; refine .sq ?_; refine .ret ?_; refine .block_ret ?_; refine .pass_ret ?_; exact .ret rfl (.tmp rfl <| .nil) rfl (Le.i (by first | exact chg_1 (by simp_all) (by simp_all) | exact chg_2 (by simp_all) (by simp_all) | exact chg_0 (by simp_all) (by simp_all)))
    ·refine .skip ?_; refine .block_normal ?_; refine .z ?_; refine .a ?_; refine .sq ?_; refine .ret ?_; exact .ret rfl (.tmp rfl <| .nil) rfl (Le.i (by first | exact chg_1 (by simp_all) (by simp_all) | exact chg_2 (by simp_all) (by simp_all) | exact chg_0 (by simp_all) (by simp_all)))
   ·refine .gf c21 ?_; refine .gf c21 ?_; refine .gf c21 ?_; refine .gf c21 ?_; refine .x (OpSem.pickF rfl rfl c21 rfl) ?_; refine .a ?_; refine .sq ?_; refine .condF rfl rfl ?_; refine .skip ?_; refine .block_normal ?_; refine .z ?_; refine .a ?_; refine .sq ?_; refine .ret ?_; exact .ret rfl (.tmp rfl <| .nil) rfl (Le.i (by first | exact chg_1 (by simp_all) (by simp_all) | exact chg_2 (by simp_all) (by simp_all) | exact chg_0 (by simp_all) (by simp_all)))
 ·refine .gf c13 ?_; refine .gf c13 ?_; refine .gf c13 ?_; refine .gf c13 ?_; refine .x (OpSem.pickF rfl rfl c13 rfl) ?_; refine .a ?_; refine .sq ?_; refine .condF rfl rfl ?_; refine .seq ?_; refine .region ?_; refine .m ?_; refine .m ?_; refine .split (n := 21) rfl (fun c21 => ?_) (fun c21 => ?_)
  ·refine .gt c21 ?_; refine .x (.f fo35_2) ?_; refine .gt c21 ?_; refine .x (.l vs22) ?_; refine .gt c21 ?_; refine .m ?_; refine .gt c21 ?_; refine .x (OpSem.call0 (slices_Contains_int_int_does o.del p) rfl rfl rfl rfl (Les.refl _)) ?_; refine .x (OpSem.pickT rfl rfl c21 rfl) ?_; refine .a ?_; refine .sq ?_; refine .cond rfl (fun c19 => ?_) (fun c19 => ?_)
   ·refine .seq ?_; refine .region ?_; refine .a ?_; refine .sq ?_; refine .ret ?_; refine .block_ret ?_; refine .pass_ret ?_; exact .ret rfl (.tmp rfl <| .nil) rfl (Le.i (by first | exact chg_1 (by simp_all) (by simp_all) | exact chg_2 (by simp_all) (by simp_all) | exact chg_0 (by simp_all) (by simp_all)))
   ·refine .skip ?_; refine .block_normal ?_; refine .z ?_; refine .a ?_; refine .sq ?_; refine .ret ?_; exact .ret rfl (.tmp rfl <| .nil) rfl (Le.i (by first | exact chg_1 (by simp_all) (by simp_all) | exact chg_2 (by simp_all) (by simp_all) | exact chg_0 (by simp_all) (by simp_all)))
  ·refine .gf c21 ?_; refine .gf c21 ?_; refine .gf c21 ?_; refine .gf c21 ?_; refine .x (OpSem.pickF rfl rfl c21 rfl) ?_; refine .a ?_; refine .sq ?_; refine .condF rfl rfl ?_; refine .skip ?_; refine .block_normal ?_; refine .z ?_; refine .a ?_; refine .sq ?_; refine .ret ?_; exact .ret rfl (.tmp rfl <| .nil) rfl (Le.i (by first | exact chg_1 (by simp_all) (by simp_all) | exact chg_2 (by simp_all) (by simp_all) | exact chg_0 (by simp_all) (by simp_all)))

end Go.Proofs.Ytlidcpmdgceboaa
end

section
/- The reference's closure is the closure. -/

set_option linter.unusedVariables false
set_option linter.unusedSimpArgs false
set_option linter.unusedSectionVars false
namespace Go.Eng
open Go
/-- What holds of the list. -/
structure WInv (t : Tsk) (s : List Int) (use : Nat → Bool) (now : List Int) : Prop where
  nd : now.Nodup
  base : ∀ p, p ∈ s → p ∈ now
  snd : ∀ p, p ∈ now → (0 ≤ p ∧ p < t.facts) ∧ Rch t s use p
section
variable {t : Tsk} {s : List Int} {use : Nat → Bool} {drop : List Bool}
end
end Go.Eng
end

section
/- Walks, written by gen.py out of hints. -/





set_option linter.unusedVariables false
set_option linter.unusedSimpArgs false
namespace Go.Proofs.Ytlidcpmdgceboaa
open Go.Eng
set_option maxRecDepth 10000
set_option maxHeartbeats 1000000

end Go.Proofs.Ytlidcpmdgceboaa
end

section
/- Landmarks: the reference's tests are those of the program. -/

set_option linter.unusedVariables false
set_option linter.unusedSimpArgs false
set_option linter.unusedSectionVars false
namespace Go.Eng
open Go
/-- The facts that are within reach, as the reference lists them. -/
def wiW (t : Tsk) (p : Int) : List Int := wiR t (adrTo t p t.ops.length) t.ini (t.facts.toNat + 1)
end Go.Eng
end

section
/- Walks, written by gen.py out of hints. -/



set_option linter.unusedVariables false
set_option linter.unusedSimpArgs false
namespace Go.Proofs.Ytlidcpmdgceboaa
open Go.Eng
set_option maxRecDepth 10000
set_option maxHeartbeats 1000000

end Go.Proofs.Ytlidcpmdgceboaa
end

section
/- Linear programs. -/

set_option linter.unusedVariables false
set_option linter.unusedSimpArgs false
set_option linter.unusedSectionVars false
namespace Go.Eng
open Go
structure LPr where
  rws : List (List Int)
  bnd : List Int
  obj : List Int
deriving DecidableEq
instance : Inhabited LPr := ⟨⟨[], [], []⟩⟩
abbrev lprS (p : LPr) : S := .g [.d (rows p.rws), .d (ints p.bnd), .d (ints p.obj)]
def lprZ : LPr := ⟨[], [], []⟩
/-- The row of a fact of the goal. -/
def gRow (t : Tsk) (q : Int) : List Int := t.ops.map fun o => -(chgO o q)
def gBnd (t : Tsk) (q : Int) : Int := if q ∈ t.ini then 0 else -1
/-- The row of a landmark. -/
noncomputable def lRow (t : Tsk) (q : Int) : List Int := (List.range t.ops.length).map fun (i : Nat) => if (i : Int) ∈ acL t q then -1 else 0
noncomputable def lmN (t : Tsk) : List Int := (lmL t).filter fun q => decide (q ∉ t.ini)
/-- The program of counting. -/
noncomputable def cpA (t : Tsk) : LPr := ⟨((t.goal.map (gRow t)) ++ (lmN t).map (lRow t)).take 6, ((t.goal.map (gBnd t)) ++ (lmN t).map fun _ => -1).take 6, t.ops.map fun o => -o.cost⟩
def cpF (t : Tsk) : Int × Int := if tskF t ≠ (0, 0) then tskF t else if CLarge t then (10, -8) else (0, 0)
noncomputable def cpR (t : Tsk) : LPr := if cpF t = (0, 0) then cpA t else lprZ
/-! ### The reference's program, so far -/
def obTo (t : Tsk) (k : Nat) : List Int := (t.ops.take k).map fun o => -o.cost
theorem ob_s {t : Tsk} {k : Nat} (hk : k < t.ops.length) : obTo t (k + 1) = obTo t k ++ [-(nth t.ops k).cost] := by unfold obTo; rw [tk_s hk]; simp
theorem ob_len {t : Tsk} {k : Nat} (hk : k ≤ t.ops.length) : (obTo t k).length = k := by simp [obTo]; omega
def gRowTo (t : Tsk) (q : Int) (k : Nat) : List Int := (t.ops.take k).map fun o => -(chgO o q)
def gRows (t : Tsk) (k : Nat) : List (List Int) := (t.goal.take k).map (gRow t)
def gBnds (t : Tsk) (k : Nat) : List Int := (t.goal.take k).map (gBnd t)
theorem grs_s {t : Tsk} {k : Nat} (hk : k < t.goal.length) : gRows t (k + 1) = gRows t k ++ [gRow t (nth t.goal k)] := by unfold gRows; rw [tk_s hk]; simp
theorem gbs_s {t : Tsk} {k : Nat} (hk : k < t.goal.length) : gBnds t (k + 1) = gBnds t k ++ [gBnd t (nth t.goal k)] := by unfold gBnds; rw [tk_s hk]; simp
theorem grs_len {t : Tsk} {k : Nat} (hk : k ≤ t.goal.length) : (gRows t k).length = k := by simp [gRows]; omega
noncomputable def lRowTo (t : Tsk) (q : Int) (k : Nat) : List Int := (List.range k).map fun (i : Nat) => if (i : Int) ∈ acL t q then -1 else 0
/-! ### All rows, and the first six -/
noncomputable def lmNTo (t : Tsk) (q : Nat) : List Int := (lmTo t q).filter fun p => decide (p ∉ t.ini)
noncomputable def allR (t : Tsk) (q : Nat) : List (List Int) := t.goal.map (gRow t) ++ (lmNTo t q).map (lRow t)
noncomputable def allB (t : Tsk) (q : Nat) : List Int := t.goal.map (gBnd t) ++ (lmNTo t q).map fun _ => -1
theorem all_len {t : Tsk} {q : Nat} : (allB t q).length = (allR t q).length := by simp [allR, allB]
theorem cpA_r (t : Tsk) : (cpA t).rws = (allR t t.facts.toNat).take 6 := rfl
theorem cpA_b (t : Tsk) : (cpA t).bnd = (allB t t.facts.toNat).take 6 := rfl
theorem cpA_o (t : Tsk) : (cpA t).obj = obTo t t.ops.length := by unfold obTo; rw [List.take_length]; rfl
theorem lmN_t {t : Tsk} {q : Nat} (h : lmP t q = true) (hi : (q : Int) ∉ t.ini) : lmNTo t (q + 1) = lmNTo t q ++ [(q : Int)] := by
  unfold lmNTo; rw [lm_t h, List.filter_append]; simp [hi]
theorem cl_ops {t : Tsk} (h : ¬ CLarge t) : t.ops.length ≤ 6 := by unfold CLarge at h; omega
theorem cl_cost {t : Tsk} (h : ¬ CLarge t) {i : Nat} (hi : i < t.ops.length) : (nth t.ops i).cost ≤ 20 := Classical.byContradiction fun hn => h (.inl ⟨i, hi, by omega⟩)
theorem chg_in {o : SOp} {p : Int} : -1 ≤ chgO o p ∧ chgO o p ≤ 1 := by unfold chgO; split; omega; split <;> omega
theorem neg_in {n : Int} (h0 : -9223372036854775807 ≤ n) (h1 : n ≤ 9223372036854775807) : IntKind.i64.wrap (0 - n) = -n := by
  rw [IntWalk.i64_in _ ⟨by omega, by omega⟩]; omega
end Go.Eng
end

section
/- Walks, written by gen.py out of hints. -/



set_option linter.unusedVariables false
set_option linter.unusedSimpArgs false
namespace Go.Proofs.Ytlidcpmdgceboaa
open Go.Eng
set_option maxRecDepth 10000
set_option maxHeartbeats 1000000

end Go.Proofs.Ytlidcpmdgceboaa
end

section
/- Walks, written by gen.py out of hints. -/



set_option linter.unusedVariables false
set_option linter.unusedSimpArgs false
namespace Go.Proofs.Ytlidcpmdgceboaa
open Go.Eng
set_option maxRecDepth 10000
set_option maxHeartbeats 1000000

end Go.Proofs.Ytlidcpmdgceboaa
end

section
/- The program of counting, as the planner builds it. -/

set_option linter.unusedVariables false
set_option linter.unusedSimpArgs false
set_option linter.unusedSectionVars false
namespace Go.Eng
open Go
def gRowS (t : Tsk) (q : Int) (i : Nat) : List Int := (List.range t.ops.length).map fun (j : Nat) => if j < i then -(chgO (nth t.ops j) q) else 0
theorem gs_len {t : Tsk} {q : Int} {i : Nat} : (gRowS t q i).length = t.ops.length := by simp [gRowS]
theorem gs_0 {t : Tsk} {q : Int} : gRowS t q 0 = List.replicate t.ops.length 0 := by
  apply List.ext_getElem (by simp [gRowS])
  intro i h1 h2; simp [gRowS]
theorem gs_s {t : Tsk} {q : Int} {i : Nat} (hi : i < t.ops.length) : (gRowS t q i).set i (-(chgO (nth t.ops i) q)) = gRowS t q (i + 1) := by
  apply List.ext_getElem (by simp [gRowS])
  intro j h1 h2
  rw [List.getElem_set]
  simp only [gRowS, List.getElem_map, List.getElem_range]
  by_cases hj : i = j
  · subst hj; simp
  · rw [if_neg hj]
    by_cases h : j < i
    · rw [if_pos h, if_pos (by omega)]
    · rw [if_neg h, if_neg (by omega)]
theorem gs_end {t : Tsk} {q : Int} : gRowS t q t.ops.length = gRow t q := by
  apply List.ext_getElem (by simp [gRowS, gRow])
  intro j h1 h2
  have hj : j < t.ops.length := by simpa [gRow] using h2
  simp only [gRowS, gRow, List.getElem_map, List.getElem_range]
  rw [if_pos hj, nth_eq hj]
noncomputable def lRowS (t : Tsk) (q : Int) (j : Nat) : List Int := (List.range t.ops.length).map fun (i : Nat) => if (i : Int) ∈ (acL t q).take j then -1 else 0
theorem ls_len {t : Tsk} {q : Int} {i : Nat} : (lRowS t q i).length = t.ops.length := by simp [lRowS]
theorem ls_0 {t : Tsk} {q : Int} : lRowS t q 0 = List.replicate t.ops.length 0 := by
  apply List.ext_getElem (by simp [lRowS])
  intro i h1 h2; simp [lRowS]
theorem ls_end {t : Tsk} {q : Int} : lRowS t q (acL t q).length = lRow t q := by unfold lRowS lRow; rw [List.take_length]
theorem acTo_in {t : Tsk} {p x : Int} : ∀ {k : Nat}, x ∈ acTo t p k → 0 ≤ x ∧ x < k
  | 0, h => by simp [acTo] at h
  | k + 1, h => by
    by_cases hl : acP t p k = true
    · rw [ac_t hl] at h
      rcases List.mem_append.1 h with h | h
      · have := acTo_in h; omega
      · simp at h; omega
    · rw [ac_f hl] at h; have := acTo_in h; omega
theorem acL_in {t : Tsk} {p : Int} {j : Nat} (hj : j < (acL t p).length) : 0 ≤ nth (acL t p) j ∧ nth (acL t p) j < t.ops.length := acTo_in (k := t.ops.length) (nth_mem (l := acL t p) (n := (j : Int)) (by omega) (by omega))
theorem ls_s {t : Tsk} {q : Int} {j : Nat} (hj : j < (acL t q).length) : (lRowS t q j).set (nth (acL t q) j).toNat (-1) = lRowS t q (j + 1) := by
  have hr := acL_in hj
  apply List.ext_getElem (by simp [lRowS])
  intro i h1 h2
  rw [List.getElem_set]
  simp only [lRowS, List.getElem_map, List.getElem_range]
  have hm : (i : Int) ∈ (acL t q).take (j + 1) ↔ (i : Int) ∈ (acL t q).take j ∨ nth (acL t q) j = i := by
    rw [tk_s hj]; simp only [List.mem_append, List.mem_singleton]; constructor <;> (rintro (h | h) <;> simp [h])
  by_cases he : (nth (acL t q) j).toNat = i
  · rw [if_pos he, if_pos (hm.2 (.inr (by omega)))]
  · rw [if_neg he]
    by_cases h : (i : Int) ∈ (acL t q).take j
    · rw [if_pos h, if_pos (hm.2 (.inl h))]
    · rw [if_neg h, if_neg (fun h' => (hm.1 h').elim h (fun e => he (by omega)))]
noncomputable def lmNK (t : Tsk) (k : Nat) : List Int := ((lmL t).take k).filter fun p => decide (p ∉ t.ini)
noncomputable def qR (t : Tsk) (k : Nat) : List (List Int) := t.goal.map (gRow t) ++ (lmNK t k).map (lRow t)
noncomputable def qB (t : Tsk) (k : Nat) : List Int := t.goal.map (gBnd t) ++ (lmNK t k).map fun _ => -1
theorem qr_0 {t : Tsk} : gRows t t.goal.length = qR t 0 ∧ gBnds t t.goal.length = qB t 0 := by
  unfold gRows gBnds qR qB lmNK
  rw [List.take_length]; simp
theorem qr_t {t : Tsk} {k : Nat} (hk : k < (lmL t).length) (h : nth (lmL t) k ∉ t.ini) : qR t (k + 1) = qR t k ++ [lRow t (nth (lmL t) k)] ∧ qB t (k + 1) = qB t k ++ [-1] := by
  unfold qR qB lmNK; rw [tk_s hk, List.filter_append]; simp [h]
theorem qr_f {t : Tsk} {k : Nat} (hk : k < (lmL t).length) (h : nth (lmL t) k ∈ t.ini) : qR t (k + 1) = qR t k ∧ qB t (k + 1) = qB t k := by
  unfold qR qB lmNK; rw [tk_s hk, List.filter_append]; simp [h]
theorem qr_len {t : Tsk} {k : Nat} : (qB t k).length = (qR t k).length := by simp [qR, qB]
theorem qr_le {t : Tsk} {k : Nat} : (qR t k).length ≤ t.goal.length + k := by
  unfold qR lmNK
  have := List.length_filter_le (fun p => decide (p ∉ t.ini)) ((lmL t).take k)
  simp only [List.length_append, List.length_map]
  rw [List.length_take] at this; omega
theorem qr_end {t : Tsk} : (qR t (lmL t).length).take 6 = (cpA t).rws ∧ (qB t (lmL t).length).take 6 = (cpA t).bnd := by
  have h : lmNK t (lmL t).length = lmNTo t t.facts.toNat := by unfold lmNK lmNTo; rw [List.take_length]; rfl
  rw [cpA_r, cpA_b]; unfold qR qB allR allB; rw [h]; exact ⟨rfl, rfl⟩
theorem tk_min {α : Type} {l : List α} {n : Int} (h : n = min (l.length : Int) 6) : l.take n.toNat = l.take 6 := by
  rcases Nat.lt_or_ge l.length 6 with h1 | h1
  · rw [List.take_of_length_le (by omega), List.take_of_length_le (by omega)]
  · congr 1; omega
theorem cpR_1 {t : Tsk} (h : cpF t ≠ (0, 0)) : lprZ = cpR t := by unfold cpR; rw [if_neg h]
theorem cpR_0 {t : Tsk} (h : cpF t = (0, 0)) : cpA t = cpR t := by unfold cpR; rw [if_pos h]
theorem cpF_1 {t : Tsk} (h : tskF t ≠ (0, 0)) : tskF t = cpF t := by unfold cpF; rw [if_pos h]
theorem cpF_2 {t : Tsk} (h : tskF t = (0, 0)) (h2 : CLarge t) : (10, -8) = cpF t := by unfold cpF; rw [if_neg (fun hn => hn h), if_pos h2]
theorem cpF_0 {t : Tsk} (h : tskF t = (0, 0)) (h2 : ¬ CLarge t) : (0, 0) = cpF t := by unfold cpF; rw [if_neg (fun hn => hn h), if_neg h2]
theorem cpF_ne {t : Tsk} (h : tskF t ≠ (0, 0)) : cpF t ≠ (0, 0) := by rw [← cpF_1 h]; exact h
theorem cl_any {t : Tsk} (h : (t.ops.any fun o => decide (20 < o.cost)) = true) : CLarge t := by
  obtain ⟨o, ho, hc⟩ := List.any_eq_true.1 h
  obtain ⟨i, hi, rfl⟩ := List.getElem_of_mem ho
  exact .inl ⟨i, hi, by rw [nth_eq hi]; simpa using hc⟩
theorem cl_none {t : Tsk} (h : ¬ (t.ops.any fun o => decide (20 < o.cost)) = true) (h6 : ¬ 6 < t.ops.length) : ¬ CLarge t := fun hc => by
  rcases hc with ⟨i, hi, hc⟩ | hc
  · exact h (List.any_eq_true.2 ⟨t.ops[i], List.getElem_mem hi, by rw [nth_eq hi] at hc; simpa using hc⟩)
  · exact h6 hc
theorem acs_at {t : Tsk} {k : Nat} (hk : k < (lmL t).length) : nth (acsTo t (lmL t).length) k = acL t (nth (lmL t) k) := by
  have h : k < (acsTo t (lmL t).length).length := by simp [acsTo]; omega
  rw [nth_eq h, nth_eq hk]; simp [acsTo]
theorem setP_len2 {n : Int} {l : List Int} (h : SetP n l) (hn : n ≤ 24) : l.length ≤ 24 := by
  have := pw_lt_len (n := n) (x := 0) (setP_sorted h) (fun y hy => setP_mem h hy)
  omega
theorem lp_end {t : Tsk} : (S.g [.d (rows ((qR t (lmL t).length).take (min ((qR t (lmL t).length).length : Int) 6).toNat)), .d (ints ((qB t (lmL t).length).take (min ((qR t (lmL t).length).length : Int) 6).toNat)), .d (ints (obTo t t.ops.length))]) = lprS (cpA t) := by
  have h := qr_end (t := t)
  rw [tk_min rfl, tk_min (by rw [qr_len]), h.1, h.2, ← cpA_o]
theorem Le.lpz : Le (.g [.d (.v (.slice none 0 0)), .d (.v (.slice none 0 0)), .d (.v (.slice none 0 0))]) (lprS lprZ) := Le.g (.cons (Le.nil 1) <| .cons (Le.nil 1) <| .cons (Le.nil 1) <| .nil)
end Go.Eng
end
