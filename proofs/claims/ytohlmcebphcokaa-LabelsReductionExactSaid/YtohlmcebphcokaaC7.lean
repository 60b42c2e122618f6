/- The engine and the walks that this claim uses, part 7. Written by prune.py out of our own texts. -/
import Derived.Test.YtohlmcebphcokaaC6
import Derived.RangeFuncFrom
import Derived.RangeFuncLeaves
import Derived.TacticsIn
import Derived.RangeFuncBox
import Derived.WalkKit
import Derived.OwnWalkIn
import Derived.TacticsInMore
import Derived.LoopNIn
import Derived.LoopIn
import Derived.Shelf.SlSortCmp.NoneTotal
section
/- Plans of a task and of its projections; compatible patterns. -/

set_option linter.unusedVariables false
set_option linter.unusedSimpArgs false
set_option linter.unusedSectionVars false
namespace Go.Eng
open Go
abbrev StepP (n : Int) (plan : List Int) : Prop := ∀ i : Nat, i < plan.length → 0 ≤ nth plan i ∧ nth plan i < n
def stepsF (n : Int) (plan : List Int) : Int × Int := if 60 < plan.length then (2, -5) else if ¬ StepP n plan then (3, -6) else (0, 0)
def planF (m : Multi) (plan : List Int) : Int × Int := if validate m = (0, 0) then stepsF m.ops.length plan else validate m
def itS (m : Multi) (plan : List Int) : Nat → List Int
  | 0 => m.init
  | k + 1 => nextS (itS m plan k) (nth m.ops (nth plan k)).post
abbrev okTo (m : Multi) (plan : List Int) (k : Nat) : Prop := ∀ i : Nat, i < k → holds (itS m plan i) (nth m.ops (nth plan i)).pre = true
def solvesB (m : Multi) (plan : List Int) : Bool := decide (okTo m plan plan.length) && holds (itS m plan plan.length) m.goal
def solvesR (m : Multi) (plan : List Int) : Bool := decide (planF m plan = (0, 0)) && solvesB m plan
/-! ### Compatible patterns -/
/-- An operator changes a variable of the pattern. -/
def chg (l : List Asg) (vars : List Int) : Bool := l.any fun x => decide (x.1 ∈ vars)
def compat (m : Multi) (a b : List Int) : Bool := !(m.ops.any fun o => chg o.post a && chg o.post b)
/-! ### Finite costs are small -/
def liftI (L c : Int) : Int := if L + 100 < c ∧ c < 1000000000 then c + 1 else c
section
variable {m : Multi} (hv : Valid m)
include hv
end
end Go.Eng
end

section
/- The greatest sum of the values of compatible patterns, found in two ways. -/

set_option linter.unusedVariables false
set_option linter.unusedSimpArgs false
set_option linter.unusedSectionVars false
namespace Go.Eng
open Go
def plusI (a b : Int) : Int := if a = 1000000000 ∨ b = 1000000000 then 1000000000 else min (a + b) 999999999
abbrev ValsOk (V : List Int) : Prop := ∀ i : Nat, i < V.length → 0 ≤ nth V i ∧ nth V i ≤ 1000000000 ∧ (nth V i < 1000000000 → nth V i ≤ 200000)
def bestV (V : List Int) (C : Nat → Nat → Bool) : Nat → Nat → List Nat → Int
  | 0, _, _ => 0
  | n + 1, i, ch => if ch.any (fun k => !C i k) = true then bestV V C n (i + 1) ch else max (bestV V C n (i + 1) ch) (plusI (nth V i) (bestV V C n (i + 1) (ch ++ [i])))
/-- The sum of the values of some of the places from i on. -/
def sumR (V : List Int) (p : Nat → Bool) : Nat → Nat → Int
  | _, 0 => 0
  | i, n + 1 => if p i = true then plusI (nth V i) (sumR V p (i + 1) n) else sumR V p (i + 1) n
def putB (p : Nat → Bool) (i : Nat) (b : Bool) : Nat → Bool := fun x => if x = i then b else p x
section
variable {V : List Int} (hV : ValsOk V) {C : Nat → Nat → Bool}
include hV
abbrev FitsR (C : Nat → Nat → Bool) (p : Nat → Bool) (i n : Nat) (ch : List Nat) : Prop := (∀ x, i ≤ x → x < i + n → p x = true → ∀ k, k ∈ ch → C x k = true) ∧ ∀ x, i ≤ x → x < i + n → p x = true → ∀ y, i ≤ y → y < x → p y = true → C x y = true
omit hV in
theorem putB_same {p : Nat → Bool} {i : Nat} {b : Bool} : putB p i b i = b := by unfold putB; rw [if_pos rfl]
omit hV in
theorem putB_ne {p : Nat → Bool} {i x : Nat} {b : Bool} (h : x ≠ i) : putB p i b x = p x := by unfold putB; rw [if_neg h]
end
/-! ### The same sum from the other end -/
def sumL (V : List Int) (p : Nat → Bool) : Nat → Int
  | 0 => 0
  | k + 1 => if p k = true then (if nth V k = 1000000000 ∨ sumL V p k = 1000000000 then 1000000000 else sumL V p k + nth V k) else sumL V p k
/-- Plainly added. -/
def seg (V : List Int) (p : Nat → Bool) (i : Nat) : Nat → Int
  | 0 => 0
  | n + 1 => seg V p i n + (if p (i + n) = true then nth V ((i + n : Nat) : Int) else 0)
abbrev InfR (V : List Int) (p : Nat → Bool) (i n : Nat) : Prop := ∃ x, i ≤ x ∧ x < i + n ∧ p x = true ∧ nth V x = 1000000000
section
variable {V : List Int} (hV : ValsOk V)
include hV
end
/-! ### Words as sets -/
def bitI (w : Nat) (i : Nat) : Bool := decide (w / 2 ^ i % 2 = 1)
def wordOf (p : Nat → Bool) : Nat → Nat
  | 0 => 0
  | k + 1 => wordOf p k + (if p k = true then 2 ^ k else 0)
abbrev FitsW (C : Nat → Nat → Bool) (n w : Nat) : Prop := ∀ i : Nat, i < n → bitI w i = true → ∀ k : Nat, k < i → bitI w k = true → C i k = true
instance {C : Nat → Nat → Bool} {n w : Nat} : Decidable (FitsW C n w) := inferInstance
def bestW (V : List Int) (C : Nat → Nat → Bool) (n : Nat) : Nat → Int
  | 0 => 0
  | w + 1 => if FitsW C n w then max (bestW V C n w) (sumL V (bitI w) n) else bestW V C n w
/-! ### Sums are admissible -/
abbrev PatsOk (m : Multi) (pats : List (List Int)) : Prop := ∀ i : Nat, i < pats.length → (nth pats i).length ≠ 0 ∧ PatP m.sizes (nth pats i) ∧ prodTo m.sizes (nth pats i) (nth pats i).length ≤ 2000
noncomputable def valsL (m : Multi) (pats : List (List Int)) (s : List Int) : List Int := pats.map fun vars => pval m vars s
def cmpF (m : Multi) (pats : List (List Int)) (i k : Nat) : Bool := compat m (nth pats i) (nth pats k)
section
variable {m : Multi} {pats : List (List Int)} (hv : Valid m) (hp : PatsOk m pats)
include hv hp
end
/-! ### The order does not matter -/
/-! ### Faults and answers of the package -/
def cmpT (m : Multi) (a b : List Int) : Int × Int := if projFault m a = (0, 0) then patFault m.sizes b (-9) else projFault m a
def cmpR (m : Multi) (a b : List Int) : Bool := decide (cmpT m a b = (0, 0)) && compat m a b
/-- The fault of the patterns. -/
def patsF (m : Multi) (pats : List (List Int)) (s : List Int) : Nat → Int × Int
  | 0 => (0, 0)
  | k + 1 => if patsF m pats s k = (0, 0) then (if valF m (nth pats k) s = (0, 0) then (0, 0) else ((valF m (nth pats k) s).1, k)) else patsF m pats s k
def addF (m : Multi) (pats : List (List Int)) (s : List Int) : Int × Int := if stateFault m s ≠ (0, 0) then stateFault m s else if 6 < pats.length then (2, -9) else patsF m pats s pats.length
noncomputable def addR (m : Multi) (pats : List (List Int)) (s : List Int) : Int := if addF m pats s = (0, 0) then bestV (valsL m pats s) (cmpF m pats) pats.length 0 [] else 0
/-! ### The walk's words -/
noncomputable def valsTo (m : Multi) (pats : List (List Int)) (s : List Int) (k : Nat) : List Int := (List.range k).map fun (i : Nat) => valR m (nth pats i) s
def chI (ch : List Nat) : List Int := ch.map fun (k : Nat) => (k : Int)
end Go.Eng
end

section
/- The laws of sums of patterns. -/


set_option linter.unusedVariables false
set_option linter.unusedSimpArgs false
set_option linter.unusedSectionVars false
namespace Go.Eng
open Go
def backTo (pats : List (List Int)) : Nat → List (List Int)
  | 0 => []
  | k + 1 => backTo pats k ++ [nth pats ((pats.length - 1 - k : Nat) : Int)]
/-! ### Shifts -/
/-! ### The greatest sum, word by word -/
def fitK (C : Nat → Nat → Bool) (w i : Nat) : Nat → Bool
  | 0 => true
  | k + 1 => fitK C w i k && (!bitI w k || C i k)
/-! ### The fault, pattern by pattern -/
def patA (m : Multi) (pats : List (List Int)) (k : Nat) : Int × Int := patFault m.sizes (nth pats k) k
def addK (m : Multi) (pats : List (List Int)) (s : List Int) (k : Nat) : Int × Int := if stateFault m s ≠ (0, 0) then stateFault m s else if 6 < pats.length then (2, -9) else patsF m pats s k
end Go.Eng
end

section
/- Cost partitions. -/


set_option linter.unusedVariables false
set_option linter.unusedSimpArgs false
set_option linter.unusedSectionVars false
namespace Go.Eng
open Go
/-! ### The first fault of several -/
def firstF (f : Nat → Int × Int) : Nat → Int × Int
  | 0 => (0, 0)
  | k + 1 => if firstF f k = (0, 0) then f k else firstF f k
theorem firstF_of {f : Nat → Int × Int} : ∀ {n : Nat}, (∀ j, j < n → f j = (0, 0)) → firstF f n = (0, 0)
  | 0, _ => rfl
  | n + 1, h => by simp only [firstF]; rw [if_pos (firstF_of fun j hj => h j (by omega))]; exact h n (by omega)
theorem firstF_stop {f : Nat → Int × Int} {k : Nat} (h : firstF f k ≠ (0, 0)) : ∀ n, firstF f (k + n) = firstF f k
  | 0 => rfl
  | n + 1 => by
    have ih := firstF_stop h n
    show firstF f (k + n + 1) = _
    simp only [firstF]
    rw [if_neg (by rw [ih]; exact h), ih]
theorem firstF_bad {f : Nat → Int × Int} {n k : Nat} (hk : k < n) (h0 : ∀ j, j < k → f j = (0, 0)) (h : f k ≠ (0, 0)) : f k = firstF f n := by
  have h1 : firstF f (k + 1) = f k := by simp only [firstF]; rw [if_pos (firstF_of h0)]
  have := firstF_stop (f := f) (k := k + 1) (by rw [h1]; exact h) (n - (k + 1))
  rw [show k + 1 + (n - (k + 1)) = n by omega] at this
  rw [this, h1]
theorem firstF_all {f : Nat → Int × Int} : ∀ {n : Nat}, firstF f n = (0, 0) → ∀ j, j < n → f j = (0, 0)
  | 0, _, j, hj => by omega
  | n + 1, h, j, hj => by
    simp only [firstF] at h
    split at h
    · rename_i h1
      by_cases hjn : j = n
      · subst hjn; exact h
      · exact firstF_all h1 j (by omega)
    · rename_i h1; exact absurd h h1
theorem firstF_code {f : Nat → Int × Int} (hf : ∀ j, (f j).1 = 0 → f j = (0, 0)) : ∀ {n : Nat}, (firstF f n).1 = 0 → firstF f n = (0, 0)
  | 0, _ => rfl
  | n + 1, h => by
    simp only [firstF] at h ⊢
    split
    · rename_i h1; rw [if_pos h1] at h; exact hf n h
    · rename_i h1; rw [if_neg h1] at h; exact absurd (firstF_code hf h) h1
/-! ### Abstractions with costs of labels -/
def labA (c : List Int) (a : Abs) (k : Int) : Int × Int := if (absFault a).1 ≠ 0 then ((absFault a).1, k) else if a.labels ≠ c.length then (9, k) else (0, 0)
def labF (l : List Abs) (c : List Int) : Int × Int := if 6 < l.length then (2, -1) else if costFault c (min (c.length : Int) 40) (-4) ≠ (0, 0) then costFault c (min (c.length : Int) 40) (-4) else firstF (fun k => labA c (nth l k) k) l.length
theorem labA_1 {c : List Int} {a : Abs} {k : Int} (h : (absFault a).1 ≠ 0) : ((absFault a).1, k) = labA c a k := by unfold labA; rw [if_pos h]
theorem labA_2 {c : List Int} {a : Abs} {k : Int} (h : (absFault a).1 = 0) (h2 : a.labels ≠ c.length) : (9, k) = labA c a k := by unfold labA; rw [if_neg (fun hn => hn h), if_pos h2]
theorem labA_0 {c : List Int} {a : Abs} {k : Int} (h : (absFault a).1 = 0) (h2 : a.labels = c.length) : labA c a k = (0, 0) := by unfold labA; rw [if_neg (fun hn => hn h), if_neg (fun hn => hn h2)]
theorem labA_ok {c : List Int} {a : Abs} {k : Int} (h : labA c a k = (0, 0)) : AbsOk a ∧ a.labels = c.length := by
  unfold labA at h
  split at h
  · rename_i h1; exact absurd (congrArg Prod.fst h) h1
  · rename_i h1
    split at h
    · cases h
    · rename_i h2; exact ⟨(absFault_ok (Decidable.not_not.1 h1)).1, Decidable.not_not.1 h2⟩
theorem labA_code {c : List Int} {a : Abs} {k : Int} (h : (labA c a k).1 = 0) : labA c a k = (0, 0) := by
  unfold labA at h ⊢
  split
  · rename_i h1; rw [if_pos h1] at h; exact absurd h h1
  · rename_i h1
    rw [if_neg h1] at h
    split
    · rename_i h2; rw [if_pos h2] at h; cases h
    · rfl
theorem labF_1 {l : List Abs} {c : List Int} (h : 6 < l.length) : (2, -1) = labF l c := by unfold labF; rw [if_pos h]
theorem labF_2 {l : List Abs} {c : List Int} (h : ¬ 6 < l.length) (h2 : costFault c (min (c.length : Int) 40) (-4) ≠ (0, 0)) : costFault c (min (c.length : Int) 40) (-4) = labF l c := by unfold labF; rw [if_neg h, if_pos h2]
theorem labF_3 {l : List Abs} {c : List Int} (h : ¬ 6 < l.length) (h2 : costFault c (min (c.length : Int) 40) (-4) = (0, 0)) : firstF (fun k => labA c (nth l k) k) l.length = labF l c := by unfold labF; rw [if_neg h, if_neg (fun hn => hn h2)]
theorem labF_bad {l : List Abs} {c : List Int} (h : ¬ 6 < l.length) (h2 : costFault c (min (c.length : Int) 40) (-4) = (0, 0)) {k : Nat} (hk : k < l.length) (h0 : ∀ j : Nat, j < k → labA c (nth l j) j = (0, 0)) {x : Int × Int} (hx : x = labA c (nth l k) k) (hn : x.1 ≠ 0) : x = labF l c := by
  rw [← labF_3 h h2, hx]
  exact firstF_bad (f := fun k : Nat => labA c (nth l k) k) hk h0 (fun e => hn (by rw [hx]; exact congrArg Prod.fst e))
theorem labF_0 {l : List Abs} {c : List Int} (h : ¬ 6 < l.length) (h2 : costFault c (min (c.length : Int) 40) (-4) = (0, 0)) (h0 : ∀ j : Nat, j < l.length → labA c (nth l j) j = (0, 0)) : (0, 0) = labF l c := by
  rw [← labF_3 h h2]; exact (firstF_of h0).symm
theorem costFault_code {c : List Int} {n i : Int} (h : (costFault c n i).1 = 0) : costFault c n i = (0, 0) := (costFault_ok' h).2.2
theorem labF_code {l : List Abs} {c : List Int} (h : (labF l c).1 = 0) : labF l c = (0, 0) := by
  unfold labF at h ⊢
  split
  · rename_i h1; rw [if_pos h1] at h; cases h
  · rename_i h1
    rw [if_neg h1] at h
    split
    · rename_i h2; rw [if_pos h2] at h; exact absurd (costFault_code h) h2
    · rename_i h2; rw [if_neg h2] at h; exact firstF_code (fun j => labA_code) h
theorem labF_ok {l : List Abs} {c : List Int} (h : labF l c = (0, 0)) : l.length ≤ 6 ∧ c.length ≤ 40 ∧ CostP c ∧ ∀ k : Nat, k < l.length → AbsOk (nth l k) ∧ (nth l k).labels = c.length := by
  unfold labF at h
  split at h
  · cases h
  · rename_i h1
    split at h
    · rename_i h2; exact absurd h h2
    · rename_i h2
      obtain ⟨h3, h4, _⟩ := costFault_ok' (c := c) (n := min (c.length : Int) 40) (i := -4) (by rw [Decidable.not_not.1 h2])
      exact ⟨by omega, by omega, h4, fun k hk => labA_ok (firstF_all h k hk)⟩
/-! ### Parts -/
def prtF (c : List Int) (ps : List (List Int)) : Int × Int := if labF [] c ≠ (0, 0) then labF [] c else if 6 < ps.length then (2, -1) else firstF (fun k => costFault (nth ps k) c.length k) ps.length
def colS (ps : List (List Int)) (x : Nat) : Nat → Int
  | 0 => 0
  | k + 1 => colS ps x k + nth (nth ps k) x
abbrev FitsP (c : List Int) (ps : List (List Int)) : Prop := ∀ x : Nat, x < c.length → colS ps x ps.length ≤ nth c x
/-! ### Equal parts -/
def shareI (c n i : Int) : Int := c / n + (if i < c % n then 1 else 0)
def uniF (c : List Int) (n : Int) : Int × Int := if labF [] c ≠ (0, 0) then labF [] c else if n < 1 ∨ 6 < n then (3, -5) else (0, 0)
def rowTo (c : List Int) (n i : Int) (j : Nat) : List Int := (c.take j).map fun x => shareI x n i
def uniTo (c : List Int) (n : Int) : Nat → List (List Int)
  | 0 => []
  | k + 1 => uniTo c n k ++ [rowTo c n k c.length]
def uniL (c : List Int) (n : Int) : List (List Int) := if uniF c n = (0, 0) then uniTo c n n.toNat else []
/-! ### Needed costs -/
def needI (a : Abs) (d : List Int) (x : Int) : Nat → Int
  | 0 => 0
  | k + 1 => if (nth a.arcs k).lab = x ∧ nth d (nth a.arcs k).to < 1000000000 then max (needI a d x k) (nth d (nth a.arcs k).fr - nth d (nth a.arcs k).to) else needI a d x k
def needL (a : Abs) (d : List Int) (k : Nat) : List Int := (List.range a.labels.toNat).map fun (x : Nat) => needI a d x k
/-! ### Saturated costs -/
def subTo (a b : List Int) : Nat → List Int
  | 0 => a
  | j + 1 => (subTo a b j).set j (nth (subTo a b j) j - nth b j)
noncomputable def lefTo (l : List Abs) (c : List Int) : Nat → List Int
  | 0 => c
  | k + 1 => subTo (lefTo l c k) (needL (nth l k) (distL (nth l k) (lefTo l c k)) (nth l k).arcs.length) (lefTo l c k).length
noncomputable def ndL (l : List Abs) (c : List Int) (k : Nat) : List Int := needL (nth l k) (distL (nth l k) (lefTo l c k)) (nth l k).arcs.length
noncomputable def prtT (l : List Abs) (c : List Int) : Nat → List (List Int)
  | 0 => []
  | k + 1 => prtT l c k ++ [ndL l c k]
noncomputable def valT (l : List Abs) (c : List Int) : Nat → List Int
  | 0 => []
  | k + 1 => valT l c k ++ [nth (distL (nth l k) (lefTo l c k)) (nth l k).init]
noncomputable def satP (l : List Abs) (c : List Int) : List (List Int) := if labF l c = (0, 0) then prtT l c l.length else []
noncomputable def satV (l : List Abs) (c : List Int) : List Int := if labF l c = (0, 0) then valT l c l.length else []
end Go.Eng
end

section
/- Walks, written by gen.py out of hints. -/



set_option linter.unusedVariables false
set_option linter.unusedSimpArgs false
namespace Go.Proofs.Ytohlmcebphcokaa
open Go.Eng
set_option maxRecDepth 10000
set_option maxHeartbeats 1000000

theorem labels_Check_does (l : List Abs) (c : List Int) (hr : ∀ k : Nat, k < l.length → -9223372036854775808 ≤ (nth l k).states ∧ (nth l k).states ≤ 9223372036854775807) : Does Try.prog false 54 [.d (abssD l), .d (ints c)] (flt (labF l c)) := by
  refine Does.of_body Try.func54 rfl rfl (by simp) Try.call54 (fun w0 O0 => ?_)
  refine Tr.lenLe (n := 0) rfl (fun len0 => ?_)
  refine Tr.lenLe (n := 1) rfl (fun len1 => ?_)
  refine Tr.seq ?_
  refine Tr.region ?_
  refine TrOps.semM (OpSem.alloc 4 rfl zc29 rfl) rfl rfl (by decide) ?_
  refine TrOps.nil ?_
  refine At.seq ?_
  refine Tr.seq ?_
  refine Tr.seq ?_
  refine Tr.region ?_
  refine TrOps.sem (OpSem.move (.inl rfl) rfl) rfl rfl (by decide) ?_
  refine TrOps.sem (OpSem.lenL rfl rfl es34) rfl rfl (by decide) ?_
  refine TrOps.sem (OpSem.bin rfl rfl rfl bgtr) rfl rfl (by decide) ?_
  refine TrOps.nil ?_
  refine At.seq ?_
  refine Tr.cond rfl (fun c11 => ?_) (fun c11 => ?_)
  · refine Tr.seq ?_
    refine Tr.region ?_
    refine TrOps.sem (OpSem.build rfl rfl pl29 zc29 rfl rfl) rfl rfl (by decide) ?_
    refine TrOps.storeb rfl rfl rfl rfl rfl rfl rfl vs29 (by first | decide | simp) ?_
    refine TrOps.nil ?_
    refine At.seq ?_
    refine Tr.ret ?_
    refine At.pass_ret ?_
    exact At.ret rfl (.cellN rfl rfl vs29 <| .nil) rfl (Le.flt (labF_1 (by simp at c11; omega)))
  · have h1 : ¬ 6 < l.length := by simp at c11; omega
    refine Tr.skip ?_
    refine At.seq ?_
    refine Tr.seq ?_
    refine Tr.seq ?_
    refine Tr.region ?_
    refine TrOps.sem (OpSem.move (.inl rfl) rfl) rfl rfl (by decide) ?_
    refine TrOps.sem (OpSem.move (.inl rfl) rfl) rfl rfl (by decide) ?_
    refine TrOps.sem (OpSem.lenL rfl rfl es22) rfl rfl (by decide) ?_
    refine TrOps.sem (OpSem.min2 rfl rfl rfl) rfl rfl (by decide) ?_
    refine TrOps.sem (OpSem.call0 (abstraction_Costs_does c (min (c.length : Int) 40) (-4)) rfl rfl rfl rfl (Les.refl _)) rfl rfl (by decide) ?_
    refine TrOps.semM (OpSem.alloc 5 rfl zc29 rfl) rfl rfl (by decide) ?_
    refine TrOps.storeb rfl rfl rfl rfl rfl rfl rfl vs29 (by first | decide | simp) ?_
    refine TrOps.nil ?_
    refine At.seq ?_
    refine Tr.seq ?_
    refine Tr.region ?_
    refine TrOps.sem (OpSem.loadbN rfl rfl rfl vs29 (by first | decide | simp)) rfl rfl (by decide) ?_
    refine TrOps.sem (OpSem.build rfl rfl pl29 zc29 rfl rfl) rfl rfl (by decide) ?_
    refine TrOps.sem (OpSem.neS2 rfl rfl rfl io29) rfl rfl (by decide) ?_
    refine TrOps.nil ?_
    refine At.seq ?_
    refine Tr.cond rfl (fun c20 => ?_) (fun c20 => ?_)
    · refine Tr.seq ?_
      refine Tr.region ?_
      refine TrOps.sem (OpSem.loadbN rfl rfl rfl vs29 (by first | decide | simp)) rfl rfl (by decide) ?_
      refine TrOps.storeb rfl rfl rfl rfl rfl rfl rfl vs29 (by first | decide | simp) ?_
      refine TrOps.nil ?_
      refine At.seq ?_
      refine Tr.ret ?_
      refine At.pass_ret ?_
      exact At.ret rfl (.cellN rfl rfl vs29 <| .nil) rfl (Le.flt (labF_2 h1 (fun e => by simp [e] at c20)))
    · have h2 : costFault c (min (c.length : Int) 40) (-4) = (0, 0) := pair0 (by simpa using c20)
      refine Tr.skip ?_
      refine At.seq ?_
      refine Tr.seq ?_
      refine Tr.seq ?_
      refine Tr.region ?_
      refine TrOps.sem (OpSem.move (.inl rfl) rfl) rfl rfl (by decide) ?_
      refine TrOps.sem (OpSem.lenL rfl rfl es34) rfl rfl (by decide) ?_
      refine TrOps.sem (OpSem.move (.inl rfl) rfl) rfl rfl (by decide) ?_
      refine TrOps.nil ?_
      refine At.seq ?_
      refine Tr.block ?_
      refine Tr.loop (X := Nat) (fun k => k ≤ l.length ∧ ∀ j : Nat, j < k → labA c (nth l j) j = (0, 0)) (fun k => [(1, .d (ints c)), (4, .r 4 0), (22, .d (abssD l)), (23, I (l.length)), (24, I (k))]) (fun k => [(4, .box [I (0), I (0)])]) (fun k => l.length - k) 0 ⟨by omega, by simp⟩ ?_ ?_
      · exact .slot rfl (.refl _) <| .slot rfl (.refl _) <| .slot rfl (.refl _) <| .slot rfl (.refl _) <| .slot rfl (Le.of_eq (by simp)) <| .mem rfl <| .nil
      · rintro k ⟨hkl, hinv⟩
        refine Tr.seq ?_
        refine Tr.region ?_
        refine TrOps.sem (OpSem.bin rfl rfl rfl blss) rfl rfl (by decide) ?_
        refine TrOps.nil ?_
        refine At.seq ?_
        refine Tr.seq ?_
        refine Tr.cond rfl (fun c25 => ?_) (fun c25 => ?_)
        · have hk : k < l.length := by simpa using c25
          refine Tr.skip ?_
          refine At.seq ?_
          refine Tr.seq ?_
          refine Tr.block ?_
          refine Tr.seq ?_
          refine Tr.region ?_
          refine TrOps.sem (OpSem.move (.inl rfl) rfl) rfl rfl (by decide) ?_
          refine TrOps.sem (OpSem.idxL rfl rfl rfl es34 (by omega) (by omega)) rfl rfl (by decide) ?_
          refine TrOps.sem (OpSem.loadN rfl rfl vs46 (by first | decide | simp) rfl) rfl rfl (by decide) ?_
          refine TrOps.semM (OpSem.alloc 7 rfl zc46 rfl) rfl rfl (by decide) ?_
          refine TrOps.sem (OpSem.move (.inr rfl) rfl) rfl rfl (by decide) ?_
          refine TrOps.storeb rfl rfl rfl rfl rfl rfl rfl vs46 (by first | decide | simp) ?_
          refine TrOps.nil ?_
          refine At.seq ?_
          refine Tr.seq ?_
          refine Tr.seq ?_
          refine Tr.region ?_
          refine TrOps.sem (OpSem.loadbN rfl rfl rfl vs46 (by first | decide | simp)) rfl rfl (by decide) ?_
          refine TrOps.sem (OpSem.call0 (abstraction_Validate_does (nth l k) (hr k hk)) rfl rfl rfl rfl (Les.refl _)) rfl rfl (by decide) ?_
          refine TrOps.semM (OpSem.alloc 8 rfl zc29 rfl) rfl rfl (by decide) ?_
          refine TrOps.storeb rfl rfl rfl rfl rfl rfl rfl vs29 (by first | decide | simp) ?_
          refine TrOps.nil ?_
          refine At.seq ?_
          refine Tr.seq ?_
          refine Tr.region ?_
          refine TrOps.sem (OpSem.loadbN rfl rfl rfl vs29 (by first | decide | simp)) rfl rfl (by decide) ?_
          refine TrOps.sem (OpSem.build rfl rfl pl29 zc29 rfl rfl) rfl rfl (by decide) ?_
          refine TrOps.sem (OpSem.neS2 rfl rfl rfl io29) rfl rfl (by decide) ?_
          refine TrOps.nil ?_
          refine At.seq ?_
          refine Tr.cond rfl (fun c33 => ?_) (fun c33 => ?_)
          · have hne : (absFault (nth l k)).1 ≠ 0 := fun e => by simp [(absFault_ok e).2] at c33
            refine Tr.seq ?_
            refine Tr.region ?_
            refine TrOps.sem (OpSem.fieldr rfl rfl fo29_0) rfl rfl (by decide) ?_
            refine TrOps.sem (OpSem.loadb1 rfl rfl rfl vs3 rfl) rfl rfl (by decide) ?_
            refine TrOps.sem (OpSem.move (.inl rfl) rfl) rfl rfl (by decide) ?_
            refine TrOps.sem (OpSem.build rfl rfl pl29 zc29 rfl rfl) rfl rfl (by decide) ?_
            refine TrOps.storeb rfl rfl rfl rfl rfl rfl rfl vs29 (by first | decide | simp) ?_
            refine TrOps.nil ?_
            refine At.seq ?_
            refine Tr.ret ?_
            refine At.pass_ret ?_
            refine At.block_ret ?_
            refine At.pass_ret ?_
            refine At.pass_ret ?_
            refine At.block_ret ?_
            refine At.pass_ret ?_
            exact At.ret rfl (.cellN rfl rfl vs29 <| .nil) rfl (Le.flt (labF_bad h1 h2 hk hinv (labA_1 hne) hne))
          · have h3 : (absFault (nth l k)).1 = 0 := by have := pair0 (f := absFault (nth l k)) (by simpa using c33); rw [this]
            refine Tr.skip ?_
            refine At.seq ?_
            refine Tr.seq ?_
            refine Tr.region ?_
            refine TrOps.sem (OpSem.fieldr rfl rfl fo46_1) rfl rfl (by decide) ?_
            refine TrOps.sem (OpSem.loadb1 rfl rfl rfl vs3 rfl) rfl rfl (by decide) ?_
            refine TrOps.sem (OpSem.move (.inl rfl) rfl) rfl rfl (by decide) ?_
            refine TrOps.sem (OpSem.lenL rfl rfl es22) rfl rfl (by decide) ?_
            refine TrOps.sem (OpSem.bin rfl rfl rfl bneq) rfl rfl (by decide) ?_
            refine TrOps.nil ?_
            refine At.seq ?_
            refine Tr.cond rfl (fun c42 => ?_) (fun c42 => ?_)
            · refine Tr.seq ?_
              refine Tr.region ?_
              refine TrOps.sem (OpSem.move (.inl rfl) rfl) rfl rfl (by decide) ?_
              refine TrOps.sem (OpSem.build rfl rfl pl29 zc29 rfl rfl) rfl rfl (by decide) ?_
              refine TrOps.storeb rfl rfl rfl rfl rfl rfl rfl vs29 (by first | decide | simp) ?_
              refine TrOps.nil ?_
              refine At.seq ?_
              refine Tr.ret ?_
              refine At.block_ret ?_
              refine At.pass_ret ?_
              refine At.pass_ret ?_
              refine At.block_ret ?_
              refine At.pass_ret ?_
              exact At.ret rfl (.cellN rfl rfl vs29 <| .nil) rfl (Le.flt (labF_bad h1 h2 hk hinv (labA_2 h3 (by simpa using c42)) (by simp)))
            · have hb := labA_0 (c := c) (k := k) h3 (by simpa using c42)
              refine Tr.skip ?_
              refine At.block_normal ?_
              refine At.seq ?_
              refine Tr.region ?_
              refine TrOps.sem (OpSem.bin rfl rfl rfl (badd (by omega) (by omega))) rfl rfl (by decide) ?_
              refine TrOps.sem (OpSem.move (.inl rfl) rfl) rfl rfl (by decide) ?_
              refine TrOps.nil ?_
              refine At.again (k + 1) ⟨by omega, all_succ hinv hb⟩ ?_ (by omega)
              exact .slot rfl (.refl _) <| .slot rfl (.refl _) <| .slot rfl (.refl _) <| .slot rfl (.refl _) <| .slot rfl (Le.of_eq (by simp)) <| .mem rfl <| .nil
        · have hk : k = l.length := by simp at c25; omega
          refine Tr.exit ?_
          refine At.pass_exit ?_
          refine At.pass_exit ?_
          refine At.block_same ?_
          refine At.seq ?_
          refine Tr.seq ?_
          refine Tr.region ?_
          refine TrOps.sem (OpSem.build rfl rfl pl29 zc29 rfl rfl) rfl rfl (by decide) ?_
          refine TrOps.storeb rfl rfl rfl rfl rfl rfl rfl vs29 (by first | decide | simp) ?_
          refine TrOps.nil ?_
          refine At.seq ?_
          refine Tr.ret ?_
          exact At.ret rfl (.cellN rfl rfl vs29 <| .nil) rfl (Le.flt (by subst hk; exact labF_0 h1 h2 hinv))

end Go.Proofs.Ytohlmcebphcokaa
end

section
/- The laws of cost partitions. -/

set_option linter.unusedVariables false
set_option linter.unusedSimpArgs false
set_option linter.unusedSectionVars false
namespace Go.Eng
open Go
def prtR (c : List Int) (ps : List (List Int)) : Bool := decide (prtF c ps = (0, 0)) && decide (FitsP c ps)
/-! ### Equal parts -/
/-! ### Saturated parts -/
/-! ### The example -/
abbrev lineA : Abs := ⟨3, 2, [⟨0, 0, 1⟩, ⟨1, 1, 2⟩, ⟨2, 1, 2⟩], 0, [2]⟩
end Go.Eng
end

section
/- The engine, ranges over functions: what an iterator owes. -/










set_option linter.unusedSimpArgs false
set_option linter.unnecessarySimpa false
set_option linter.unusedVariables false
namespace Go.Eng
open Go.RowKit (Below)

theorem rowsIn_wide {n : Nat} {P : Program} {row : String} {args : Array Value} {w : World} {R : Value → World → Prop} (h : Go.Rows P row args w R) : Go.RowsIn Fence.wide n P row args w R :=
  fun c cs _ => let ⟨v, w', r, s⟩ := h c cs; ⟨v, w', r, stepsIn_wide.2 s⟩

/-- An operation that ends in no panic, seen from inside the wide fence. -/
theorem Oper.wpIn_of {P : Program} {o : Oper} {a : Act} {w : World} {K : Act → World → Prop} (h : o.wp P a w K (fun _ _ _ => False)) (n : Nat) (Q : Post) : o.wpIn Fence.wide n P a w K Q := by
  refine ⟨fun f _ => trivial, ?_⟩
  have hs : o.semAt Fence.wide.round a.eval = execOp a.eval o := rfl
  rw [hs]
  unfold Oper.wp at h
  generalize (execOp a.eval o).run P w = r at h
  cases r with
  | ok nx w' =>
    cases nx <;> simp only [Oper.upon, Oper.uponIn] at h ⊢ <;> first
      | exact h
      | exact h.elim
      | (refine ⟨fun hd => by simp [Fence.wide] at hd, callsIn_wide.2 (Calls.mono h fun e w'' he => ?_)⟩
         cases e with
         | returned v => exact he
         | panicked c => exact he.elim
         | outgrown => obtain ⟨_, _, h⟩ := he; exact h.elim)
      | exact ⟨fun hd => by simp [Fence.wide] at hd, rowsIn_wide h⟩
  | halt x w' => cases x <;> simp only [Oper.upon, Oper.uponIn] at h ⊢

section
variable {P : Program} {N : Nat} {w0 : World} {O0 : Nat → Nat} {ops : Array Oper} {Q : Post} {e : Env} {M : Mem} {rest : List Oper} {o : Oper} {s : S}

/-- A list of operations, inside the wide fence: a call of yield may stand among them. -/
def TrL (n : Nat) (P : Program) (N : Nat) (w0 : World) (O0 : Nat → Nat) (ops : Array Oper) (Q : Post) (e : Env) (M : Mem) (rest : List Oper) : Prop :=
  ∀ (O : Nat → Nat) (H : Nat → Value) (a : Act) (w : World), St N w0 O0 e M O H a w → wpListIn Fence.wide n P ops Q rest a w

theorem TrL.nil {n : Nat} (h : At N w0 O0 e M .normal Q) : TrL n P N w0 O0 ops Q e M [] := fun O H a w hst => h O H a w hst

theorem TrL.sem {n : Nat} (hsem : OpSem P w0.heap.size o e M s none) {d : Nat} (hg : o.guard = none) (hd : o.dst = some d) (hdN : d < N)
    (h : TrL n P N w0 O0 ops Q ((d, s) :: e) M rest) : TrL n P N w0 O0 ops Q e M (o :: rest) := by
  intro O H a w hst
  refine wpListIn_plain hg fun K hK => Oper.wpIn_of (hsem O H a w hst.size (hst.slotsAt _) hst.mem K ?_) n Q
  intro O' H' w' x hk hb hr _
  have hsz := hst.size
  refine hK _ _ (h O' H' _ _ ⟨?_, ?_, hst.bl.trans (hb.mono hst.size), fun b hb' => (hk.lab b (by omega)).trans (hst.lab b hb'), ?_, fun h' m hm => ?_⟩)
  · rw [hd]; exact hst.df
  · rw [hd]; simp [Act.put, hst.sz]
  · rw [hd]
    exact put_slots hst.sz hdN hr fun n s hs => by
      obtain ⟨y, hy, hr⟩ := hst.slots n s hs
      exact ⟨y, hy, hr.mono0 hk⟩
  · exact (hst.mem h' m hm).mono hk (by simp) (by simp) 0 (fun h he => by cases he) (.inl rfl)

/-- What an iterator may still say of a value when a round has run: what lay below n0 lies as it lay. -/
def capK (lb : Value) (Oc : Nat → Nat) (W : World) : Kr := {
  q O w x := x = lb ∧ Keeps Oc W O w
  mono := fun O w O' w' x hk h => ⟨h.1, h.2.trans hk⟩ }

def belowO (n0 : Nat) (Oc : Nat → Nat) : Nat → Nat := fun b => if b < n0 then Oc b else 1

theorem capK_next {lb : Value} {Oc O : Nat → Nat} {W w w' : World} {x : Value} (h : (capK lb Oc W).q O w x) (hb : Below W.heap.size w w') : (capK lb Oc W).q (belowO W.heap.size Oc) w' x :=
  ⟨h.1, fun b hlt h0 => ⟨by simp [belowO, hlt, h0], (hb.block b hlt).trans (h.2 b hlt h0).2⟩⟩

/-- Which slots outlive a round: data without memory, and what is captured. -/
def Stays (W0 : World) (Oc : Nat → Nat) (e : Env) : Prop := ∀ n s, look e n = some s → S.flat 9 s = true ∨ ∃ lb, s = .a (capK lb Oc W0)
theorem Stays.nil {W0 : World} {Oc : Nat → Nat} : Stays W0 Oc [] := fun n s h => by cases h
theorem Stays.flat {W0 : World} {Oc : Nat → Nat} {n : Nat} {s : S} {e : Env} (h : S.flat 9 s = true) (t : Stays W0 Oc e) : Stays W0 Oc ((n, s) :: e) := fun m s' hl => by
  rcases look_cons hl with ⟨rfl, rfl⟩ | ⟨_, hl⟩
  · exact .inl h
  · exact t m s' hl
theorem Stays.cap {W0 : World} {Oc : Nat → Nat} {n : Nat} {lb : Value} {e : Env} (t : Stays W0 Oc e) : Stays W0 Oc ((n, .a (capK lb Oc W0)) :: e) := fun m s' hl => by
  rcases look_cons hl with ⟨rfl, rfl⟩ | ⟨_, hl⟩
  · exact .inr ⟨lb, rfl⟩
  · exact t m s' hl

/-- From here on this world is the beginning: data without memory and what is captured remain. -/
inductive Reb (W0 : World) (Oc : Nat → Nat) (e : Env) : Env → Prop
  | nil : Reb W0 Oc e []
  | flat {n : Nat} {s s' : S} {e' : Env} (h : look e n = some s) (hl : Le s s') (hf : S.flat 9 s' = true) (t : Reb W0 Oc e e') : Reb W0 Oc e ((n, s') :: e')
  | cap {n : Nat} {lb : Value} {e' : Env} (h : look e n = some (.a (capK lb Oc W0))) (t : Reb W0 Oc e e') : Reb W0 Oc e ((n, .a (capK lb Oc W0)) :: e')
theorem Reb.st {W0 : World} {Oc : Nat → Nat} {e' : Env} (hr : Reb W0 Oc e e') {O : Nat → Nat} {H : Nat → Value} {a : Act} {w : World} (hst : St N w0 O0 e M O H a w) : St N w (belowO W0.heap.size Oc) e' [] (belowO W0.heap.size Oc) zH a w := by
  induction hr with
  | nil => exact ⟨hst.df, hst.sz, .refl _ _, fun _ _ => rfl, fun n s h => (by cases h), fun n m h => (by cases h)⟩
  | flat h hl hf t ih =>
    refine ⟨ih.df, ih.sz, ih.bl, ih.lab, fun n s hs => ?_, ih.mem⟩
    rcases look_cons hs with ⟨rfl, rfl⟩ | ⟨_, hs⟩
    · obtain ⟨x, hx, hr⟩ := hst.slots _ _ h
      exact ⟨x, hx, (hl _ _ _ _ hr).flat 9 hf⟩
    · exact ih.slots n s hs
  | cap h t ih =>
    refine ⟨ih.df, ih.sz, ih.bl, ih.lab, fun n s hs => ?_, ih.mem⟩
    rcases look_cons hs with ⟨rfl, rfl⟩ | ⟨_, hs⟩
    · obtain ⟨x, hx, hr⟩ := hst.slots _ _ h
      cases hr with
      | a x K hq => exact ⟨x, hx, .a _ _ (capK_next hq (.refl _ _))⟩
    · exact ih.slots n s hs

end
end Go.Eng
end

section
/- Walks, written by gen.py out of hints. -/




set_option linter.unusedVariables false
set_option linter.unusedSimpArgs false
namespace Go.Proofs.Ytohlmcebphcokaa
open Go.Eng
set_option maxRecDepth 10000
set_option maxHeartbeats 1000000


open Go.RowKit (Below)
def colsTo (n k : Nat) : List (Fin n) := (List.finRange n).take k
attribute [local go_sem] Oper.semAt_some

end Go.Proofs.Ytohlmcebphcokaa
end

section
/- Walks, written by gen.py out of hints. -/



set_option linter.unusedVariables false
set_option linter.unusedSimpArgs false
namespace Go.Proofs.Ytohlmcebphcokaa
open Go.Eng
set_option maxRecDepth 10000
set_option maxHeartbeats 1000000



end Go.Proofs.Ytohlmcebphcokaa
end

section
/- Walks, written by gen.py out of hints. -/



set_option linter.unusedVariables false
set_option linter.unusedSimpArgs false
namespace Go.Proofs.Ytohlmcebphcokaa
open Go.Eng
set_option maxRecDepth 10000
set_option maxHeartbeats 1000000

end Go.Proofs.Ytohlmcebphcokaa
end

section
/- Atomic abstractions: they are valid, and their distances are those of the projection to their variable; sums of distances with parts of the costs. Atomic abstractions: what the reference computes; the laws' words. Sums of distances of atomic abstractions with parts of the costs: the law's words. -/

set_option linter.unusedVariables false
set_option linter.unusedSimpArgs false
set_option linter.unusedSectionVars false
namespace Go.Eng
open Go

/-! ### Abstractions with sorted arcs -/
theorem arcLt_trans {x y z : Arc} (h : arcLt x y) (k : arcLt y z) : arcLt x z := by unfold arcLt at *; omega
theorem absOk_sorted {a : Abs} (ha : AbsOk a) : a.arcs.Pairwise arcLt := by
  have key : ∀ (d i : Nat), i + d + 1 < a.arcs.length → arcLt (nth a.arcs i) (nth a.arcs (i + d + 1 : Nat)) := by
    intro d
    induction d with
    | zero =>
      intro i hi
      have := ha.ord (i + 1) (by omega) (by omega)
      have e : ((i + 1 : Nat) : Int) - 1 = (i : Int) := by omega
      rw [e] at this
      exact this
    | succ d ih =>
      intro i hi
      have h1 := ih i (by omega)
      have := ha.ord (i + (d + 1) + 1) (by omega) (by omega)
      have e : ((i + (d + 1) + 1 : Nat) : Int) - 1 = ((i + d + 1 : Nat) : Int) := by omega
      rw [e] at this
      exact arcLt_trans h1 this
  rw [List.pairwise_iff_getElem]
  intro i j hi hj hij
  have := key (j - i - 1) i (by omega)
  have e : i + (j - i - 1) + 1 = j := by omega
  rw [e, nth_eq hi, nth_eq hj] at this
  exact this
theorem setP_of {n : Int} {l : List Int} (hs : l.Pairwise (· < ·)) (hm : ∀ x, x ∈ l → 0 ≤ x ∧ x < n) : SetP n l := fun i hi => by
  have h1 := hm l[i] (List.getElem_mem hi)
  unfold SetOk
  rw [nth_eq hi]
  refine ⟨by omega, by omega, fun h0 => ?_⟩
  rw [List.pairwise_iff_getElem] at hs
  have e : (i : Int) - 1 = ((i - 1 : Nat) : Int) := by omega
  rw [e, nth_eq (by omega)]
  exact hs (i - 1) i (by omega) hi (by omega)
theorem setP_sorted {n : Int} {l : List Int} (h : SetP n l) : l.Pairwise (· < ·) := by
  have key : ∀ (d i : Nat), i + d + 1 < l.length → nth l i < nth l (i + d + 1 : Nat) := by
    intro d
    induction d with
    | zero =>
      intro i hi
      have := (h (i + 1) (by omega)).2.2 (by omega)
      have e : ((i + 1 : Nat) : Int) - 1 = (i : Int) := by omega
      rw [e] at this
      exact this
    | succ d ih =>
      intro i hi
      have h1 := ih i (by omega)
      have := (h (i + (d + 1) + 1) (by omega)).2.2 (by omega)
      have e : ((i + (d + 1) + 1 : Nat) : Int) - 1 = ((i + d + 1 : Nat) : Int) := by omega
      rw [e] at this
      exact Int.lt_trans h1 this
  rw [List.pairwise_iff_getElem]
  intro i j hi hj hij
  have := key (j - i - 1) i (by omega)
  have e : i + (j - i - 1) + 1 = j := by omega
  rw [e, nth_eq hi, nth_eq hj] at this
  exact this
theorem setP_mem {n : Int} {l : List Int} (h : SetP n l) {x : Int} (hx : x ∈ l) : 0 ≤ x ∧ x < n := by
  obtain ⟨i, hi, rfl⟩ := List.getElem_of_mem hx
  have := h i hi
  unfold SetOk at this
  rw [nth_eq hi] at this
  exact ⟨this.1, this.2.1⟩
theorem absOk_of {a : Abs} (h1 : headOk a) (h2 : a.goals.Pairwise (· < ·)) (h3 : ∀ x, x ∈ a.goals → 0 ≤ x ∧ x < a.states) (h4 : a.arcs.length ≤ 400) (h5 : a.arcs.Pairwise arcLt) (h6 : ∀ x, x ∈ a.arcs → arcIn a x) : AbsOk a := {
  head := h1
  goals := setP_of h2 h3
  len := h4
  arc := fun i hi => h6 _ (nth_mem (by omega) (by omega))
  ord := fun i h0 hi => by
    rw [List.pairwise_iff_getElem] at h5
    have e : (i : Int) - 1 = ((i - 1 : Nat) : Int) := by omega
    rw [e, nth_eq hi, nth_eq (by omega)]
    exact h5 (i - 1) i (by omega) hi (by omega) }

/-! ### The abstraction of one variable -/
theorem findA_cases {l : List Asg} {v o : Int} : (∃ a, a ∈ l ∧ a.1 = v ∧ findA l v o = a.2) ∨ ((∀ a, a ∈ l → a.1 ≠ v) ∧ findA l v o = o) := by
  unfold findA
  cases h : l.find? (fun x => decide (x.1 = v)) with
  | none =>
    right
    rw [List.find?_eq_none] at h
    exact ⟨fun a ha e => h a ha (by simpa using e), rfl⟩
  | some a =>
    left
    exact ⟨a, List.mem_of_find?_eq_some h, by simpa using List.find?_some h, rfl⟩
theorem mem_goalsTo {m : Multi} {v x : Int} : ∀ {k : Nat}, x ∈ goalsTo m v k ↔ 0 ≤ x ∧ x < k ∧ findA m.goal v x = x
  | 0 => by simp [goalsTo]; omega
  | k + 1 => by
    have ih := mem_goalsTo (m := m) (v := v) (x := x) (k := k)
    simp only [goalsTo]
    split
    · rename_i h
      rw [List.mem_append, ih, List.mem_singleton]
      constructor
      · rintro (⟨h1, h2, h3⟩ | rfl)
        · exact ⟨h1, by omega, h3⟩
        · exact ⟨by omega, by omega, h⟩
      · rintro ⟨h1, h2, h3⟩
        by_cases e : x = k
        · exact .inr e
        · exact .inl ⟨h1, by omega, h3⟩
    · rename_i h
      rw [ih]
      constructor
      · rintro ⟨h1, h2, h3⟩; exact ⟨h1, by omega, h3⟩
      · rintro ⟨h1, h2, h3⟩
        refine ⟨h1, ?_, h3⟩
        by_cases e : x = k
        · rw [e] at h3; exact absurd h3 h
        · omega
theorem goalsTo_sorted {m : Multi} {v : Int} : ∀ {k : Nat}, (goalsTo m v k).Pairwise (· < ·)
  | 0 => by simp [goalsTo]
  | k + 1 => by
    simp only [goalsTo]
    split
    · rw [List.pairwise_append]
      refine ⟨goalsTo_sorted, by simp, fun x hx y hy => ?_⟩
      rw [mem_goalsTo] at hx
      simp at hy
      omega
    · exact goalsTo_sorted
theorem mem_arcsIn {m : Multi} {v x : Int} {r : Arc} : ∀ {j : Nat}, r ∈ arcsIn m v x j ↔ r.fr = x ∧ 0 ≤ r.lab ∧ r.lab < j ∧ findA (nth m.ops r.lab).pre v x = x ∧ r.to = findA (nth m.ops r.lab).post v x
  | 0 => by simp [arcsIn]; omega
  | j + 1 => by
    have ih := mem_arcsIn (m := m) (v := v) (x := x) (r := r) (j := j)
    simp only [arcsIn]
    split
    · rename_i h
      rw [List.mem_append, ih, List.mem_singleton]
      constructor
      · rintro (⟨h1, h2, h3, h4, h5⟩ | rfl)
        · exact ⟨h1, h2, by omega, h4, h5⟩
        · exact ⟨rfl, by show (0 : Int) ≤ (j : Int); omega, by show (j : Int) < _; omega, h, rfl⟩
      · rintro ⟨h1, h2, h3, h4, h5⟩
        by_cases e : r.lab = j
        · right
          obtain ⟨f, l, t⟩ := r
          simp only at h1 e h5
          subst h1; subst e; subst h5; rfl
        · exact .inl ⟨h1, h2, by omega, h4, h5⟩
    · rename_i h
      rw [ih]
      constructor
      · rintro ⟨h1, h2, h3, h4⟩; exact ⟨h1, h2, by omega, h4⟩
      · rintro ⟨h1, h2, h3, h4⟩
        refine ⟨h1, h2, ?_, h4⟩
        by_cases e : r.lab = j
        · rw [e] at h4; exact absurd h4.1 h
        · omega
theorem arcsIn_sorted {m : Multi} {v x : Int} : ∀ {j : Nat}, (arcsIn m v x j).Pairwise arcLt
  | 0 => by simp [arcsIn]
  | j + 1 => by
    simp only [arcsIn]
    split
    · rw [List.pairwise_append]
      refine ⟨arcsIn_sorted, by simp, fun a ha b hb => ?_⟩
      rw [mem_arcsIn] at ha
      simp at hb
      subst hb
      unfold arcLt
      simp only
      omega
    · exact arcsIn_sorted
theorem mem_arcsTo {m : Multi} {v : Int} {r : Arc} : ∀ {k : Nat}, r ∈ arcsTo m v k ↔ 0 ≤ r.fr ∧ r.fr < k ∧ 0 ≤ r.lab ∧ r.lab < m.ops.length ∧ findA (nth m.ops r.lab).pre v r.fr = r.fr ∧ r.to = findA (nth m.ops r.lab).post v r.fr
  | 0 => by simp [arcsTo]; omega
  | k + 1 => by
    simp only [arcsTo]
    rw [List.mem_append, mem_arcsTo, mem_arcsIn]
    constructor
    · rintro (⟨h1, h2, h3⟩ | ⟨h1, h2⟩)
      · exact ⟨h1, by omega, h3⟩
      · rw [h1]; exact ⟨by omega, by omega, h2⟩
    · rintro ⟨h1, h2, h3⟩
      by_cases e : r.fr = k
      · right; rw [e] at h3; exact ⟨e, h3⟩
      · exact .inl ⟨h1, by omega, h3⟩
theorem arcsTo_sorted {m : Multi} {v : Int} : ∀ {k : Nat}, (arcsTo m v k).Pairwise arcLt
  | 0 => by simp [arcsTo]
  | k + 1 => by
    simp only [arcsTo]
    rw [List.pairwise_append]
    refine ⟨arcsTo_sorted, arcsIn_sorted, fun a ha b hb => ?_⟩
    rw [mem_arcsTo] at ha
    rw [mem_arcsIn] at hb
    unfold arcLt
    omega
section
variable {m : Multi} (hv : Valid m) {v : Int} (h0 : 0 ≤ v) (h1 : v < m.sizes.length)
include hv h0 h1
theorem size_in : 1 ≤ nth m.sizes v ∧ nth m.sizes v ≤ 6 := nth_size hv.sizes h0 h1
theorem findA_in {l : List Asg} (hl : AsgsP m.sizes l) {x : Int} (hx0 : 0 ≤ x) (hx1 : x < nth m.sizes v) : 0 ≤ findA l v x ∧ findA l v x < nth m.sizes v := by
  rcases findA_cases (l := l) (v := v) (o := x) with ⟨a, ha, hav, e⟩ | ⟨_, e⟩
  · rw [e]
    have := asgsP_mem hl ha
    rw [hav] at this
    exact ⟨this.2.2.1, this.2.2.2⟩
  · rw [e]; exact ⟨hx0, hx1⟩
theorem atom_ok : AbsOk (atomA m v) := by
  have hs := size_in hv h0 h1
  have hi : 0 ≤ nth m.init v ∧ nth m.init v < nth m.sizes v := by
    have h2 := hv.init.1
    have := hv.init.2 v.toNat (by omega)
    rwa [Int.toNat_of_nonneg h0] at this
  have hol := hv.opsLen
  refine absOk_of ?_ goalsTo_sorted (fun x hx => ?_) ?_ arcsTo_sorted (fun x hx => ?_)
  · show headOk (atomA m v)
    unfold headOk atomA
    simp only
    omega
  · have : x ∈ goalsTo m v (nth m.sizes v).toNat := hx
    rw [mem_goalsTo] at this
    show 0 ≤ x ∧ x < nth m.sizes v
    omega
  · have h2 := arcsTo_len (m := m) (v := v) (k := (nth m.sizes v).toNat)
    have h3 : (nth m.sizes v).toNat * m.ops.length ≤ 6 * 40 := Nat.mul_le_mul (by omega) hol
    show (arcsTo m v (nth m.sizes v).toNat).length ≤ 400
    omega
  · have hx' : x ∈ arcsTo m v (nth m.sizes v).toNat := hx
    rw [mem_arcsTo] at hx'
    obtain ⟨a1, a2, a3, a4, a5, a6⟩ := hx'
    have hop := hv.op x.lab.toNat (by omega)
    rw [Int.toNat_of_nonneg a3] at hop
    have ht := findA_in hv h0 h1 hop.2.1 a1 (by omega)
    unfold arcIn atomA
    simp only
    omega
theorem costsL_for' {c : List Int} (hc : c.length = m.ops.length) (h : ∀ j : Nat, j < c.length → 0 ≤ nth c j ∧ nth c j ≤ 1000000) : CostFor (atomA m v) c := ⟨by show (c.length : Int) = (m.ops.length : Int); omega, h⟩
end
def costsL (m : Multi) : List Int := m.ops.map (·.cost)
theorem costsL_len {m : Multi} : (costsL m).length = m.ops.length := by simp [costsL]
theorem costsL_at {m : Multi} {j : Nat} (hj : j < m.ops.length) : nth (costsL m) j = (nth m.ops j).cost := by
  rw [nth_eq (by rw [costsL_len]; exact hj), nth_eq hj]
  simp [costsL]
theorem costsL_in {m : Multi} (hv : Valid m) {j : Nat} (hj : j < (costsL m).length) : 0 ≤ nth (costsL m) j ∧ nth (costsL m) j ≤ 1000000 := by
  rw [costsL_len] at hj
  rw [costsL_at hj]
  have := (hv.op j hj).2.2
  omega
section
variable {m : Multi} (hv : Valid m) {v : Int} (h0 : 0 ≤ v) (h1 : v < m.sizes.length)
include hv h0 h1
theorem costsL_for : CostFor (atomA m v) (costsL m) := costsL_for' hv h0 h1 costsL_len (fun j hj => costsL_in hv hj)
end

/-! ### Sums of distances -/
def sumV (D : Nat → List Int) (V : Nat → Int) (s : List Int) : Nat → Int
  | 0 => 0
  | k + 1 => sumV D V s k + nth (D k) (nth s (V k))
def sumP (p : Nat → List Int) (j : Nat) : Nat → Int
  | 0 => 0
  | k + 1 => sumP p j k + nth (p k) j
theorem next_find {sizes s : List Int} {l : List Asg} (hl : AsgsP sizes l) (hs : s.length = sizes.length) {v : Int} (h0 : 0 ≤ v) (h1 : v < sizes.length) : nth (nextS s l) v = findA l v (nth s v) := by
  rcases findA_cases (l := l) (v := v) (o := nth s v) with ⟨a, ha, hav, e⟩ | ⟨hn, e⟩
  · rw [e, ← hav]; exact nextS_mem hl hs ha
  · rw [e]; exact nextS_not hl hs h0 h1 hn
theorem holds_find {sizes s : List Int} {l : List Asg} (hl : AsgsP sizes l) (hh : holds s l = true) {v : Int} : findA l v (nth s v) = nth s v := by
  rcases findA_cases (l := l) (v := v) (o := nth s v) with ⟨a, ha, hav, e⟩ | ⟨hn, e⟩
  · rw [e, ← hav]; exact (holds_mem.1 hh a ha).symm
  · exact e
end Go.Eng

set_option linter.unusedVariables false
set_option linter.unusedSimpArgs false
set_option linter.unusedSectionVars false
namespace Go.Eng
open Go

def costsTo (m : Multi) (k : Nat) : List Int := (List.range k).map fun (i : Nat) => (nth m.ops i).cost
theorem costsTo_s {m : Multi} {k : Nat} : costsTo m (k + 1) = costsTo m k ++ [(nth m.ops k).cost] := by simp [costsTo, List.range_succ]
theorem costsTo_len {m : Multi} {k : Nat} : (costsTo m k).length = k := by simp [costsTo]
theorem costsTo_end {m : Multi} : costsTo m m.ops.length = costsL m := by
  refine List.ext_getElem (by simp [costsTo, costsL]) fun i h1 h2 => ?_
  have hi : i < m.ops.length := by simpa [costsL] using h2
  simp only [costsTo, costsL, List.getElem_map, List.getElem_range]
  rw [nth_eq hi]
theorem abs_ext {a b : Abs} (h1 : a.states = b.states) (h2 : a.labels = b.labels) (h3 : a.arcs = b.arcs) (h4 : a.init = b.init) (h5 : a.goals = b.goals) : a = b := by
  cases a; cases b; simp only at h1 h2 h3 h4 h5; subst h1 h2 h3 h4 h5; rfl
theorem arc_ext {x y : Arc} (h1 : x.fr = y.fr) (h2 : x.lab = y.lab) (h3 : x.to = y.to) : x = y := by
  cases x; cases y; simp only at h1 h2 h3; subst h1 h2 h3; rfl
/-- The arc that the reference finds among the first i targets. -/
def arcsY (m : Multi) (v x : Int) (j : Nat) (i : Nat) : List Arc := if findA (nth m.ops j).pre v x = x ∧ findA (nth m.ops j).post v x < i then [⟨x, j, findA (nth m.ops j).post v x⟩] else []
section
variable {m : Multi} (hv : Valid m) {v : Int} (h0 : 0 ≤ v) (h1 : v < m.sizes.length)
include hv h0 h1
end
end Go.Eng

set_option linter.unusedVariables false
set_option linter.unusedSimpArgs false
set_option linter.unusedSectionVars false
namespace Go.Eng
open Go

def vAt (m : Multi) (f : Int) (i : Nat) : Int := (f % m.sizes.length + i) % m.sizes.length
def atomsTo (m : Multi) (f : Int) (k : Nat) : List Abs := (List.range k).map fun (i : Nat) => atomA m (vAt m f i)
def nAt (m : Multi) : Nat := min m.sizes.length 6
def atomsL (m : Multi) (f : Int) : List Abs := atomsTo m f (nAt m)
section
variable {m : Multi} (hv : Valid m) {f : Int} (hf : 0 ≤ f)
include hv hf
end
/-- The distance of the initial state in each abstraction, with the costs that are left and with equal parts. -/
noncomputable def dSat (m : Multi) (f : Int) (i : Nat) : List Int := distL (atomA m (vAt m f i)) (lefTo (atomsL m f) (costsL m) i)
noncomputable def dUni (m : Multi) (f : Int) (i : Nat) : List Int := distL (atomA m (vAt m f i)) (rowTo (costsL m) (nAt m) i (costsL m).length)
noncomputable def aTo (m : Multi) (f : Int) (k : Nat) : Int := min 1000000000 (sumV (dSat m f) (vAt m f) m.init k)
noncomputable def bTo (m : Multi) (f : Int) (k : Nat) : Int := min 1000000000 (sumV (dUni m f) (vAt m f) m.init k)
section
variable {m : Multi} (hv : Valid m) {f : Int} (hf : 0 ≤ f)
include hv hf
end
end Go.Eng
end

section
/- Lists without adjacent duplicates; sorted lists of arcs. -/

set_option linter.unusedVariables false
set_option linter.unusedSimpArgs false
set_option linter.unusedSectionVars false
namespace Go.Eng
open Go

section
variable {α : Type} [DecidableEq α] [Inhabited α]
/-- The first k elements, but for those that are equal to the one before. -/
def ddTo (l : List α) : Nat → List α
  | 0 => []
  | k + 1 => if 0 < k ∧ nth l k = nth l (k - 1 : Int) then ddTo l k else ddTo l k ++ [nth l k]
def dd (l : List α) : List α := ddTo l l.length
/-- What lies in memory when j elements behind k0 have been looked at. -/
def dmTo (l : List α) (k0 : Nat) : Nat → List α
  | 0 => l
  | j + 1 => if nth l (k0 + j + 1 : Nat) = nth l (k0 + j : Nat) then dmTo l k0 j else (dmTo l k0 j).set (ddTo l (k0 + j + 1)).length (nth l (k0 + j + 1 : Nat))
theorem ddTo_len {l : List α} : ∀ {k : Nat}, (ddTo l k).length ≤ k
  | 0 => by simp [ddTo]
  | k + 1 => by
    have := ddTo_len (l := l) (k := k)
    simp only [ddTo]; split
    · omega
    · simp; omega
theorem ddTo_take {l : List α} : ∀ {k : Nat}, k ≤ l.length → (∀ i : Nat, 0 < i → i < k → nth l i ≠ nth l (i - 1 : Int)) → ddTo l k = l.take k
  | 0, _, _ => by simp [ddTo]
  | k + 1, hk, h => by
    simp only [ddTo]
    rw [if_neg (fun hh => h k hh.1 (by omega) hh.2), ddTo_take (by omega) fun i h0 hi => h i h0 (by omega), nth_eq (by omega), List.take_add_one, List.getElem?_eq_getElem (by omega)]
    rfl
theorem dd_all {l : List α} (h : ∀ i : Nat, 0 < i → i < l.length → nth l i ≠ nth l (i - 1 : Int)) : dd l = l := by
  unfold dd; rw [ddTo_take (Nat.le_refl _) h, List.take_length]
theorem dd_one {l : List α} (h : l.length < 2) : dd l = l := dd_all fun i h0 hi => by omega
theorem dd_ne {l : List α} (h : l ≠ []) : dd l ≠ [] := by
  have key : ∀ k, 0 < k → ddTo l k ≠ [] := by
    intro k hk
    induction k with
    | zero => omega
    | succ k ih =>
      simp only [ddTo]
      split
      · rename_i hh; exact ih hh.1
      · simp
  have : 0 < l.length := List.length_pos_iff.2 h
  exact key _ this
theorem dmTo_len {l : List α} {k0 : Nat} : ∀ {j : Nat}, (dmTo l k0 j).length = l.length
  | 0 => rfl
  | j + 1 => by simp only [dmTo]; split; exact dmTo_len; rw [List.length_set]; exact dmTo_len
section
variable {l : List α} {k0 : Nat} (h0 : 0 < k0) (hd : nth l k0 = nth l (k0 - 1 : Int))
include h0 hd
theorem dk_len : ∀ {j : Nat}, (ddTo l (k0 + j + 1)).length ≤ k0 + j
  | 0 => by
    have := ddTo_len (l := l) (k := k0)
    simp only [Nat.add_zero, ddTo]
    rw [if_pos ⟨h0, hd⟩]; exact this
  | j + 1 => by
    have := dk_len (j := j)
    have e : k0 + (j + 1) + 1 = (k0 + j + 1) + 1 := by omega
    have e2 : ddTo l ((k0 + j + 1) + 1) = if 0 < k0 + j + 1 ∧ nth l (k0 + j + 1 : Nat) = nth l ((k0 + j + 1 : Nat) - 1 : Int) then ddTo l (k0 + j + 1) else ddTo l (k0 + j + 1) ++ [nth l (k0 + j + 1 : Nat)] := rfl
    rw [e, e2]; split
    · omega
    · simp; omega
theorem dmTo_at {i : Nat} : ∀ {j : Nat}, k0 + j ≤ i → nth (dmTo l k0 j) i = nth l i
  | 0, _ => rfl
  | j + 1, hi => by
    have ih := dmTo_at (i := i) (j := j) (by omega)
    have hl := dk_len h0 hd (j := j)
    simp only [dmTo]; split
    · exact ih
    · have e : nth ((dmTo l k0 j).set (ddTo l (k0 + j + 1)).length (nth l (k0 + j + 1 : Nat))) i = nth (dmTo l k0 j) i := by
        unfold nth
        simp only [Int.toNat_natCast, List.getD_eq_getElem?_getD]
        rw [List.getElem?_set_ne (by omega)]
      rw [e]; exact ih
theorem ddTo_step {j : Nat} : ddTo l (k0 + (j + 1) + 1) = if nth l (k0 + j + 1 : Nat) = nth l (k0 + j : Nat) then ddTo l (k0 + j + 1) else ddTo l (k0 + j + 1) ++ [nth l (k0 + j + 1 : Nat)] := by
  have e : k0 + (j + 1) + 1 = (k0 + j + 1) + 1 := by omega
  have e2 : ((k0 + j + 1 : Nat) : Int) - 1 = ((k0 + j : Nat) : Int) := by omega
  have e3 : ddTo l ((k0 + j + 1) + 1) = if 0 < k0 + j + 1 ∧ nth l (k0 + j + 1 : Nat) = nth l ((k0 + j + 1 : Nat) - 1 : Int) then ddTo l (k0 + j + 1) else ddTo l (k0 + j + 1) ++ [nth l (k0 + j + 1 : Nat)] := rfl
  rw [e, e3, e2]
  by_cases h : nth l (k0 + j + 1 : Nat) = nth l (k0 + j : Nat)
  · rw [if_pos ⟨by omega, h⟩, if_pos h]
  · rw [if_neg (fun hh => h hh.2), if_neg h]
theorem dmTo_take (hk : k0 < l.length) (hu : ∀ i : Nat, 0 < i → i < k0 → nth l i ≠ nth l (i - 1 : Int)) : ∀ {j : Nat}, k0 + j < l.length → (dmTo l k0 j).take (ddTo l (k0 + j + 1)).length = ddTo l (k0 + j + 1)
  | 0, _ => by
    have e : ddTo l (k0 + 0 + 1) = l.take k0 := by
      simp only [Nat.add_zero, ddTo]
      rw [if_pos ⟨h0, hd⟩, ddTo_take (by omega) hu]
    rw [e]
    simp only [dmTo, List.length_take]
    rw [Nat.min_eq_left (by omega)]
  | j + 1, hj => by
    have ih := dmTo_take hk hu (j := j) (by omega)
    have hl := dk_len h0 hd (j := j)
    have hm := dmTo_len (l := l) (k0 := k0) (j := j)
    rw [ddTo_step h0 hd]
    simp only [dmTo]
    split
    · exact ih
    · rw [List.length_append, List.length_singleton, List.take_add_one, List.take_set_of_le (Nat.le_refl _), ih, List.getElem?_set_self (by omega)]
      rfl
end
end
end Go.Eng
end

section
/- slices.SortFunc on a slice of the caller's own: from the kit's contract to ours. -/



set_option linter.unusedSimpArgs false
set_option linter.unnecessarySimpa false
set_option linter.unusedVariables false
namespace Go.Eng
open Go.Shelf Go.Lib Go.Proofs
open Go.Sort (SWO ahead grow putCells putRow mapBlock onCells HoldsK flatK putRowK size_flatK get_flatK)

def sortBy {α : Type} (cf : α → α → Int) (l : List α) : List α := l.mergeSort fun x y => !(ltOf cf) y x
theorem sortBy_len {α : Type} {cf : α → α → Int} {l : List α} : (sortBy cf l).length = l.length := by simp [sortBy]

theorem holdsK_of {α : Type} [Inhabited α] {enc : α → List Value} {k T b : Nat} {w : World} {xs : Array Value} {l : List α} (hk : ∀ x, (enc x).length = k) (hb : w.heap[b]? = some (.cells xs T (0, 0))) (hc : ∀ (i : Nat) (x : α) (j : Nat) (v : Value), l[i]? = some x → (enc x)[j]? = some v → xs[i * k + j]? = some v) : HoldsK enc k w b 0 l.toArray := by
  intro t ht
  rw [size_flatK] at ht
  have ht' : t < l.length * k := by simpa using ht
  have hk0 : 0 < k := by
    rcases Nat.eq_zero_or_pos k with h | h
    · subst h; simp at ht'
    · exact h
  have hi : t / k < l.length := (Nat.div_lt_iff_lt_mul hk0).2 ht'
  have hj : t % k < k := Nat.mod_lt _ hk0
  have he : l.toArray[t / k]! = l[t / k] := by simp [hi]
  have hlen := hk l[t / k]
  have hx := hc (t / k) l[t / k] (t % k) (enc l[t / k])[t % k] (List.getElem?_eq_getElem hi) (List.getElem?_eq_getElem (by omega))
  have hdm : t / k * k + t % k = t := by rw [Nat.mul_comm]; exact Nat.div_add_mod t k
  rw [hdm] at hx
  constructor
  · rw [get_flatK enc k _ t ht, he]
    unfold World.cell?
    simp only [hb, Nat.zero_add]
    rw [getElem!_pos _ (t % k) (by omega)]
    simpa using hx
  · unfold World.frozen?
    simp [hb]

theorem sortWorldK_at {α : Type} [Inhabited α] {enc : α → List Value} {k b n : Nat} {w : World} {d : Array α} {os : Array Obj} {b' : Nat} (hb' : b' < w.heap.size) : (sortWorldK enc k w b 0 n d os).heap[b']? = if b = b' then (w.heap[b']?).map (onCells (putCells id 0 (flatK enc k d))) else w.heap[b']? := by
  unfold sortWorldK grow putRowK putRow mapBlock
  show ((w.heap.modify b _) ++ os)[b']? = _
  rw [Array.getElem?_append_left (by simpa using hb'), Array.getElem?_modify]

theorem sortFunc_W {P : Program} {ρ : Ren} {α : Type} [Inhabited α] (L : SlLaysF0.n6 P ρ) (k T : Nat) (aE : ∀ w, (isAgg (ρ.t 24)).run P w = .ok true w) (zE : ∀ w, (Go.sizeOf (ρ.t 24)).run P w = .ok k w) (enc : α → List Value) (hk : ∀ x, (enc x).length = k) (h1 : ∀ x, ∀ v ∈ enc x, v.oneCell' = true) (cf : α → α → Int) (hO : SWO (ltOf cf)) (hT : ∀ x y, (ltOf cf) x y = false → (ltOf cf) y x = false → x = y) (g : Nat)
    (eg : ∀ args w, (callFunc g args).run P w = .ok (.enter g args) w) (hcmp : ∀ blk off size w, CmpLays P g #[] enc k cf blk off size w) (can : ∀ xs w, (callFunc (ρ.f 6) xs).run P w = .ok (.enter (ρ.f 6) xs) w) (l : List α) (hl : l.length < 4611686018427387904) :
    DoesWS P (ρ.f 6) (fun v => [v, .func (.func g) #[] #[]]) (.tuple #[]) k T (l.map fun x => (enc x).map .v) ((sortBy cf l).map fun x => (enc x).map .v) := by
  refine ⟨can, fun w v hv => ?_⟩
  rcases hv with ⟨rfl, hr⟩ | ⟨b, cap, xs, rfl, _, hb, hlc, hcm, hsz, hw, hc⟩
  · have hl0 : l = [] := by simpa using hr
    subst hl0
    refine (AnyF.slices_SortFunc_none L none 0 _ w).mono ?_
    rintro e w' ⟨rfl, rfl⟩
    exact ⟨rfl, ⟨rfl, rfl, rfl, Nat.le_refl _, fun _ _ _ => rfl⟩, .inl ⟨rfl, by simp [sortBy]⟩⟩
  · have hcv : ∀ (i : Nat) (x : α) (j : Nat) (v : Value), l[i]? = some x → (enc x)[j]? = some v → xs[i * k + j]? = some v := fun i x j v hi hj => by
      obtain ⟨y, hy, he, _⟩ := hc i ((enc x).map .v) j (.v v) (by simp [hi]) (by simp [hj])
      cases he; exact hy
    have hbs := (Array.getElem?_eq_some_iff.1 hb).1
    have hcon := AnyQ.slices_SortFunc_total L k aE zE enc hk h1 cf hO g #[] b 0 cap l.toArray w eg (hcmp _ _ _ _) (holdsK_of hk hb hcv) hbs (by simpa using hl) hT
    have e1 : l.toArray.size = (l.map fun x => (enc x).map D.v).length := by simp
    rw [e1] at hcon
    refine hcon.mono ?_
    rintro e w' ⟨rfl, n, os, rfl⟩
    have hbk : ∀ b', b' < w.heap.size → b ≠ b' → (sortWorldK enc k w b 0 n (sortBy cf l).toArray os).heap[b']? = w.heap[b']? := fun b' h h' => by rw [sortWorldK_at h, if_neg h']
    have hlc' : l.length ≤ cap := by simpa using hlc
    refine ⟨rfl, ⟨rfl, rfl, rfl, ?_, fun b' hb' hne => hbk b' hb' fun e => hne (by rw [e]; rfl)⟩, .inr ⟨b, cap, putCells id 0 (flatK enc k (sortBy cf l).toArray) xs, by simp [sortBy_len], Nat.zero_le _, ?_, by simpa [sortBy_len] using hlc', hcm, ?_, ?_, ?_⟩⟩
    · show w.heap.size ≤ (sortWorldK enc k w b 0 n (sortBy cf l).toArray os).heap.size
      unfold sortWorldK grow putRowK putRow mapBlock
      simp [ahead]
    · rw [show (sortWorldK enc k w b 0 n (l.toArray.toList.mergeSort fun x y => !(ltOf cf) y x).toArray os).heap[b]? = _ from sortWorldK_at hbs, if_pos rfl, hb]
      rfl
    · simp [putCells, hsz]
    · intro r hr
      obtain ⟨x, _, rfl⟩ := List.mem_map.1 hr
      simp [hk]
    · intro i r j d hi hj
      rw [List.getElem?_map, Option.map_eq_some_iff] at hi
      obtain ⟨x, hx, rfl⟩ := hi
      rw [List.getElem?_map, Option.map_eq_some_iff] at hj
      obtain ⟨v, hv, rfl⟩ := hj
      refine ⟨v, ?_, rfl, h1 x v (List.mem_of_getElem? hv)⟩
      have hil : i < l.length := by have := (List.getElem?_eq_some_iff.1 hx).1; rwa [sortBy_len] at this
      have hjk : j < k := by have := (List.getElem?_eq_some_iff.1 hv).1; rwa [hk] at this
      have hlt : i * k + j < l.length * k := by
        have := Nat.mul_le_mul_right k (show i + 1 ≤ l.length from hil); rw [Nat.add_mul, Nat.one_mul] at this; omega
      have hxs : i * k + j < xs.size := by rw [hsz]; exact Nat.lt_of_lt_of_le hlt (Nat.mul_le_mul_right k hlc')
      have d1 : (i * k + j) / k = i := by
        rw [Nat.mul_comm, Nat.mul_add_div (by omega), Nat.div_eq_of_lt hjk, Nat.add_zero]
      have d2 : (i * k + j) % k = j := by rw [Nat.mul_comm, Nat.mul_add_mod, Nat.mod_eq_of_lt hjk]
      have hsl : (i * k + j) < (sortBy cf l).toArray.size * k := by simpa [sortBy_len] using hlt
      unfold putCells
      rw [Array.getElem?_mapIdx, Array.getElem?_eq_getElem hxs, Option.map_some, if_pos ⟨Nat.zero_le _, by rw [size_flatK]; simpa [sortBy_len] using hlt⟩, Nat.sub_zero, get_flatK _ _ _ _ hsl, d1, d2]
      have hx2 : (sortBy cf l).toArray[i]! = x := by simp [hx]
      have hj2 : (enc x)[j]! = v := by simp [hv]
      rw [hx2, hj2]; rfl

theorem ltArc (x y : Arc) : ltOf cmpArc x y = decide (arcLt x y) := by
  unfold ltOf
  exact decide_eq_decide.2 cmpArc_lt
theorem ltArc_swo : SWO (ltOf cmpArc) := {
  irrefl x := by rw [ltArc]; simp [arcLt]
  trans x y z h1 h2 := by rw [ltArc] at *; simp only [decide_eq_true_eq] at *; unfold arcLt at *; omega
  ntrans x y z h1 h2 := by rw [ltArc] at *; simp only [decide_eq_false_iff_not] at *; unfold arcLt at *; omega }
theorem ltArc_tot (x y : Arc) (h1 : ltOf cmpArc x y = false) (h2 : ltOf cmpArc y x = false) : x = y := by
  rw [ltArc] at *
  simp only [decide_eq_false_iff_not] at *
  obtain ⟨a, b, c⟩ := x
  obtain ⟨a', b', c'⟩ := y
  unfold arcLt at *
  simp only at *
  have : a = a' ∧ b = b' ∧ c = c' := by omega
  obtain ⟨rfl, rfl, rfl⟩ := this
  rfl
/-- The arcs in order, with duplicates. -/
def sortL (l : List Arc) : List Arc := sortBy cmpArc l
theorem sortL_len (l : List Arc) : (sortL l).length = l.length := sortBy_len
theorem sortL_mem {l : List Arc} {x : Arc} : x ∈ sortL l ↔ x ∈ l := by unfold sortL sortBy; exact List.mem_mergeSort
/-- No later one comes before an earlier one. -/
theorem sortL_pw (l : List Arc) : (sortL l).Pairwise fun x y => ¬ arcLt y x := by
  have h := List.pairwise_mergeSort (le := fun x y : Arc => !(ltOf cmpArc) y x) (fun x y z h1 h2 => by
    simp only [Bool.not_eq_true'] at *
    exact ltArc_swo.ntrans z y x h2 h1) (fun x y => by
    rw [ltArc, ltArc]
    simp only [Bool.or_eq_true, Bool.not_eq_true', decide_eq_false_iff_not]
    unfold arcLt; omega) l
  refine List.Pairwise.imp ?_ h
  intro x y hxy
  rw [ltArc] at hxy
  simpa only [Bool.not_eq_true', decide_eq_false_iff_not] using hxy

theorem arc_ext3 {x y : Arc} (h : x.fr = y.fr ∧ x.lab = y.lab ∧ x.to = y.to) : x = y := arc_ext h.1 h.2.1 h.2.2
theorem arcs_at {l : List Arc} {i : Int} (h0 : 0 ≤ i) (h1 : i < l.length) : (l.map arcC)[i.toNat]? = some (arcC (nth l i)) := by
  have h : i.toNat < l.length := by omega
  rw [List.getElem?_map, List.getElem?_eq_getElem h]
  unfold nth
  simp [List.getD_eq_getElem?_getD, List.getElem?_eq_getElem h]
theorem arcs_dm {L : List Arc} {i y : Nat} {v : Arc} (ha : nth L i = v) (hi : i < L.length) (hy : y = i) : (L.map arcC)[y]? = some (arcC v) := by
  subst hy; subst ha
  have := arcs_at (l := L) (i := (y : Int)) (by omega) (by omega)
  simpa using this
theorem map_set3 {L : List Arc} {n : Nat} {x : Arc} (h : n < L.length) : (L.set n x).map arcC = (L.map arcC).take (n : Int).toNat ++ [arcC x] ++ (L.map arcC).drop ((n : Int).toNat + 1) := by
  rw [List.set_eq_take_append_cons_drop, if_pos h]
  simp
theorem dmTo_s {l : List Arc} {k j : Nat} (h : nth l (k + j + 1 : Nat) ≠ nth l (k + j : Nat)) : dmTo l k (j + 1) = (dmTo l k j).set (ddTo l (k + j + 1)).length (nth l (k + j + 1 : Nat)) := by
  simp only [dmTo]; rw [if_neg h]
theorem dmTo_e {l : List Arc} {k j : Nat} (h : nth l (k + j + 1 : Nat) = nth l (k + j : Nat)) : dmTo l k (j + 1) = dmTo l k j := by
  simp only [dmTo]; rw [if_pos h]
theorem cut_dd {l : List Arc} {k j : Nat} (h0 : 0 < k) (hd : nth l k = nth l (k - 1 : Int)) (hk : k < l.length) (hu : ∀ i : Nat, 0 < i → i < k → nth l i ≠ nth l (i - 1 : Int)) (hj : k + j + 1 = l.length) {R S : List (List D)} :
    (((dmTo l k j).map arcC).take ((ddTo l (k + j + 1)).length : Int).toNat ++ R ++ S).take ((ddTo l (k + j + 1)).length : Int).toNat = (dd l).map arcC := by
  have h1 := dk_len h0 hd (j := j)
  have h2 := dmTo_len (l := l) (k0 := k) (j := j)
  have h3 := dmTo_take h0 hd hk hu (j := j) (by omega)
  rw [Int.toNat_natCast, List.append_assoc, List.take_append_of_le_length (by simp; omega), List.take_take, Nat.min_self, ← List.map_take, h3, hj]
  rfl
theorem plain_arcs (l : List Arc) : plainB (l.map arcC) = true := by simp [plainB, arcC]
theorem repAbsV {O : Nat → Nat} {H : Nat → Value} {w : World} {st lab ini : Int} {gv : Value} (h1 : (H 0).oneCell' = true) (hg : gv.oneCell' = true) : RepS O H w (.agg #[.int .i64 st, .int .i64 lab, H 0, .int .i64 ini, gv]) (.g [I st, I lab, .o 0, I ini, .d (.v gv)]) := by
  refine .g [.int .i64 st, .int .i64 lab, H 0, .int .i64 ini, gv] _ rfl (fun x hx => ?_) (fun i x s hx hs => ?_)
  · simp only [List.mem_cons, List.not_mem_nil, or_false] at hx
    rcases hx with rfl | rfl | rfl | rfl | rfl <;> first | rfl | assumption
  · rcases i with _ | _ | _ | _ | _ | i <;> simp at hx hs <;> subst hx <;> subst hs
    · exact .d _ _ (.v _)
    · exact .d _ _ (.v _)
    · exact .o 0 h1
    · exact .d _ _ (.v _)
    · exact .d _ _ (.v _)

section
variable {P : Program} {N : Nat} {w0 : World} {O0 : Nat → Nat} {ops : Array Oper} {Q : Post} {e : Env} {M : Mem} {rest : List Oper} {o : Oper}

theorem repAbs_inv {O : Nat → Nat} {H : Nat → Value} {w : World} {st lab ini : Int} {h kg : Nat} {rg : List (List D)} {x : Value} (hr : RepS O H w x (.g [I st, I lab, .o h, I ini, .d (.s kg rg)])) :
    ∃ q n c, x = .agg #[.int .i64 st, .int .i64 lab, H h, .int .i64 ini, .slice q n c] ∧ RepD O w (.slice q n c) (.s kg rg) := by
  cases hr with
  | g xs ss hl h1 hg =>
    obtain ⟨x0, x1, x2, x3, x4, rfl⟩ : ∃ x0 x1 x2 x3 x4, xs = [x0, x1, x2, x3, x4] := by
      match xs, hl with
      | [x0, x1, x2, x3, x4], _ => exact ⟨x0, x1, x2, x3, x4, rfl⟩
    have v : ∀ {x : Value} {y : Value}, RepS O H w x (.d (.v y)) → x = y := fun hh => by cases hh with | d _ _ hd => cases hd with | v _ => rfl
    have e0 := v (hg 0 x0 _ rfl rfl)
    have e1 := v (hg 1 x1 _ rfl rfl)
    have e3 := v (hg 3 x3 _ rfl rfl)
    have e2 : x2 = H h := by
      have hh := hg 2 x2 _ rfl rfl
      cases hh with | o _ _ => rfl
    have h4 := hg 4 x4 _ rfl rfl
    subst e0 e1 e2 e3
    cases h4 with
    | d _ _ hd =>
      cases hd with
      | e a c k hm => exact ⟨a, 0, c, rfl, .e a c _ hm⟩
      | s b off c k rows y hc hm hw hO hy hr => exact ⟨_, _, c, rfl, .s b off c _ _ y hc hm hw hO hy hr⟩

/-- A call that takes an abstraction whose arcs are the caller's own and whose goals are data, and hands it back with other arcs. -/
theorem TrOps.callAbs {h d fn k T kg : Nat} {g x : Operand} {ts : Array TypeId} {rows rows' rg : List (List D)} {st lab ini : Int} (hspec : ∀ q n c, DoesW P fn (fun v => [.agg #[.int .i64 st, .int .i64 lab, v, .int .i64 ini, .slice q n c]]) (fun v => .agg #[.int .i64 st, .int .i64 lab, v, .int .i64 ini, .slice q n c]) k T rows rows')
    (ho : o.op = .call { callee := .value g, args := #[x], argTypes := ts }) (hgd : o.guard = none) (hd : o.dst = some d) (hdN : d < N) (hg : opS e g = some (.f fn [] [])) (hx : opS e x = some (.g [I st, I lab, .o h, I ini, .d (.s kg rg)])) (hM : look M h = some (.own k T rows)) (hp : plainB rows = true)
    (hn : TrOps P N w0 O0 ops Q ((d, .g [I st, I lab, .o h, I ini, .d (.s kg rg)]) :: kill h e) ((h, .own k T rows') :: killM h M) rest) : TrOps P N w0 O0 ops Q e M (o :: rest) := by
  intro O H a w hst
  have hm := hst.mem h _ hM
  refine wpList_plain hgd fun K hK => Oper.wp_false ?_ Q
  have hg' : a.eval g = .func (.func fn) #[] #[] := valS_rep 9 (hst.slotsAt #[g] g (by simp) _ hg) rfl
  obtain ⟨q, n, c, hxe, hgl⟩ := repAbs_inv (hst.slotsAt #[x] x (by simp) _ hx)
  have hsp := hspec q n c
  have hargs : (#[x] : Array Operand).toList.map a.eval = [.agg #[.int .i64 st, .int .i64 lab, H h, .int .i64 ini, .slice q n c]] := by simp [hxe]
  unfold Oper.wp
  rw [run_callW hsp.can ho hg' hargs]
  refine (hsp.run w (H h) ((hm.ownVal hp).weak (Nat.zero_le _))).mono ?_
  rintro en w' ⟨v', rfl, ht, hv', hnb⟩
  obtain ⟨O', H', h1, h2, hk, hb, hmm⟩ := callW_core hm hst.size ht hv' hnb
  have hgl' : RepD O' w' (.slice q n c) (.s kg rg) := hgl.mono hk.keeps
  have hrx : RepS O' H' w' (.agg #[.int .i64 st, .int .i64 lab, v', .int .i64 ini, .slice q n c]) (.g [I st, I lab, .o h, I ini, .d (.s kg rg)]) := by
    refine .g [.int .i64 st, .int .i64 lab, v', .int .i64 ini, .slice q n c] _ rfl (fun y hy => ?_) (fun i y s hy hs => ?_)
    · simp only [List.mem_cons, List.not_mem_nil, or_false] at hy
      rcases hy with rfl | rfl | rfl | rfl | rfl <;> first | rfl | assumption
    · rcases i with _ | _ | _ | _ | _ | i <;> simp at hy hs <;> subst hy <;> subst hs
      · exact .d _ _ (.v _)
      · exact .d _ _ (.v _)
      · rw [← h1]; exact .o h (by rw [h1]; exact h2)
      · exact .d _ _ (.v _)
      · exact .d _ _ hgl'
  have hsz := hst.size
  refine hK _ _ (hn O' H' _ _ ⟨?_, ?_, hst.bl.trans (hb.mono (Nat.le_refl _)), fun b hb' => (hk.lab b (by omega)).trans (hst.lab b hb'), ?_, fun h' m hm' => ?_⟩)
  · rw [hd]; exact hst.df
  · rw [hd]; simp [Act.put, hst.sz]
  · rw [hd]
    refine put_slots hst.sz hdN hrx fun n s hs => ?_
    obtain ⟨s', hs', hor⟩ := look_kill hs
    obtain ⟨y, hy, hr⟩ := hst.slots n s' hs'
    rcases hor with ⟨hok, rfl⟩ | rfl
    · exact ⟨y, hy, hr.mono hk 9 (fun h he => by cases he; exact hok) (.inr (by omega))⟩
    · exact ⟨y, hy, .u y⟩
  · rcases look_cons hm' with ⟨rfl, rfl⟩ | ⟨hne, hm'⟩
    · exact hmm
    · obtain ⟨m', hm2, hor⟩ := look_killM hm'
      rcases hor with rfl | ⟨hn', rfl⟩
      · trivial
      · exact ((hst.mem h' m' hm2).kill (h := h)).mono hk (by simp; omega) (by simp; omega) 9 (fun h1 he => by cases he; exact Mo.kill_ok _ m') (.inr (by omega))
end

/-- labels.Apply: the fault, the arcs with other labels, the abstraction. -/
def aplF (a : Abs) (to : List Int) : Int × Int := if absFault a ≠ (0, 0) then absFault a else if (to.length : Int) ≠ a.labels then (9, -4) else if ∃ x ∈ to, x < 0 ∨ a.labels ≤ x then (3, -4) else (0, 0)
def relTo (a : Abs) (to : List Int) (k : Nat) : List Arc := (a.arcs.take k).map fun x => ⟨x.fr, nth to x.lab, x.to⟩
def relA (a : Abs) (to : List Int) : Abs := ⟨a.states, a.labels, dd (sortL (relTo a to a.arcs.length)), a.init, a.goals⟩
theorem relTo_len {a : Abs} {to : List Int} {k : Nat} (hk : k ≤ a.arcs.length) : (relTo a to k).length = k := by simp [relTo]; omega
theorem relTo_s {a : Abs} {to : List Int} {k : Nat} (hk : k < a.arcs.length) : relTo a to (k + 1) = relTo a to k ++ [⟨(nth a.arcs k).fr, nth to (nth a.arcs k).lab, (nth a.arcs k).to⟩] := by
  unfold relTo
  rw [List.take_add_one, List.getElem?_eq_getElem hk, nth_eq hk, List.map_append]
  rfl
def aplF1 (a : Abs) (to : List Int) : Int × Int := if absFault a ≠ (0, 0) then absFault a else if (to.length : Int) ≠ a.labels then (9, -4) else (0, 0)
theorem aplF1_bad {a : Abs} {to : List Int} (h : absFault a ≠ (0, 0)) : aplF1 a to = absFault a := by unfold aplF1; rw [if_pos h]
theorem aplF1_len {a : Abs} {to : List Int} (h : absFault a = (0, 0)) (h' : (to.length : Int) ≠ a.labels) : aplF1 a to = (9, -4) := by unfold aplF1; rw [if_neg (fun hn => hn h), if_pos h']
theorem aplF1_ok {a : Abs} {to : List Int} (h : absFault a = (0, 0)) (h' : (to.length : Int) = a.labels) : aplF1 a to = (0, 0) := by unfold aplF1; rw [if_neg (fun hn => hn h), if_neg (fun hn => hn h')]
theorem aplF1_inv {a : Abs} {to : List Int} (h : aplF1 a to = (0, 0)) : absFault a = (0, 0) ∧ (to.length : Int) = a.labels := by
  unfold aplF1 at h
  split at h
  · rename_i hn; exact absurd h hn
  · rename_i hn
    split at h
    · cases h
    · rename_i hl; exact ⟨Decidable.byContradiction hn, Decidable.byContradiction hl⟩
theorem aplF_bad {a : Abs} {to : List Int} (h : aplF1 a to ≠ (0, 0)) : aplF a to = aplF1 a to := by
  unfold aplF aplF1 at *
  split
  · rfl
  · rename_i hn
    rw [if_neg hn] at h
    split
    · rfl
    · rename_i hl; rw [if_neg hl] at h; exact absurd rfl h
theorem aplF_rng {a : Abs} {to : List Int} (h : aplF1 a to = (0, 0)) (h' : ∃ x ∈ to, x < 0 ∨ a.labels ≤ x) : aplF a to = (3, -4) := by
  obtain ⟨h1, h2⟩ := aplF1_inv h
  unfold aplF; rw [if_neg (fun hn => hn h1), if_neg (fun hn => hn h2), if_pos h']
theorem aplF_ok {a : Abs} {to : List Int} (h : aplF1 a to = (0, 0)) (h' : ¬ ∃ x ∈ to, x < 0 ∨ a.labels ≤ x) : aplF a to = (0, 0) := by
  obtain ⟨h1, h2⟩ := aplF1_inv h
  unfold aplF; rw [if_neg (fun hn => hn h1), if_neg (fun hn => hn h2), if_neg h']
end Go.Eng
end

section
/- Labels: the ends of arcs, equivalent labels, the smallest equivalent label; strictly sorted lists. -/

set_option linter.unusedVariables false
set_option linter.unusedSimpArgs false
set_option linter.unusedSectionVars false
namespace Go.Eng
open Go
open Go.RowKit (Below)
/-! ### A region with few orders: each of them -/
def ordersOf (ops : Array Oper) : Nat → Array Bool → List (List Nat)
  | 0, _ => [[]]
  | n + 1, L => match Region.ready .any ops L with
    | [] => [[]]
    | i :: rs => (i :: rs).flatMap fun j => (ordersOf ops n (L.setIfInBounds j true)).map fun l => j :: l
theorem ordersOf_mem {ops : Array Oper} : ∀ (fuel t : Nat) (L : Array Bool), Region.linearise.go .any ops fuel t L [] ∈ ordersOf ops fuel L
  | 0, _, _ => by simp [Region.linearise.go, ordersOf]
  | fuel + 1, t, L => by
    simp only [Region.linearise.go]
    change (match (Region.ready .any ops L)[t % (Region.ready .any ops L).length]? with
      | some i => Region.linearise.go .any ops fuel (t / (Region.ready .any ops L).length) (L.setIfInBounds i true) [i]
      | none => [].reverse) ∈ _
    unfold ordersOf
    cases hr : Region.ready .any ops L with
    | nil => simp
    | cons x xs =>
      have hlt : t % (x :: xs).length < (x :: xs).length := Nat.mod_lt _ (by simp)
      rw [List.getElem?_eq_getElem hlt]
      simp only []
      rw [linearise_go_acc, List.reverse_singleton, List.singleton_append]
      exact List.mem_flatMap.2 ⟨_, List.getElem_mem hlt, List.mem_map.2 ⟨_, ordersOf_mem fuel _ _, rfl⟩⟩
def pickAt : List Oper → Nat → List Oper → List Oper
  | [], _, r => r
  | o :: _, 0, r => o :: r
  | _ :: l, n + 1, r => pickAt l n r
def pickL (l : List Oper) : List Nat → List Oper
  | [] => []
  | i :: s => pickAt l i (pickL l s)
theorem pickAt_eq {r : List Oper} : ∀ {l : List Oper} {i : Nat}, pickAt l i r = match l[i]? with | some o => o :: r | none => r
  | [], i => by simp [pickAt]
  | o :: l, 0 => by simp [pickAt]
  | o :: l, i + 1 => by simp only [pickAt, List.getElem?_cons_succ]; exact pickAt_eq
section
variable {P : Program} {N : Nat} {w0 : World} {O0 : Nat → Nat} {Q : Post} {e : Env} {M : Mem}
theorem wpOps_pick {l : List Oper} : ∀ {s : List Nat} {a : Act} {w : World}, wpOps P l.toArray Q s a w ↔ wpList P l.toArray Q (pickL l s) a w
  | [], a, w => Iff.rfl
  | i :: s, a, w => by
    have ih : (wpOps P l.toArray Q s) = wpList P l.toArray Q (pickL l s) := funext fun a => funext fun w => propext wpOps_pick
    simp only [wpOps, pickL, pickAt_eq, List.getElem?_toArray]
    cases l[i]? with
    | none => simp only []; rw [ih]
    | some o => simp only [wpList]; rw [ih]
theorem St.drew {O : Nat → Nat} {H : Nat → Value} {a : Act} {w : World} (hst : St N w0 O0 e M O H a w) : St N w0 O0 e M O H a w.drew :=
  ⟨hst.df, hst.sz, hst.bl.drew, hst.lab, fun n s hs => (let ⟨x, hx, hr⟩ := hst.slots n s hs; ⟨x, hx, RepS.keeps (w := w) (w' := w.drew) (O := O) (fun b _ h => ⟨h, rfl⟩) hr⟩),
    fun h m hm => MHold.mono (w := w) (w' := w.drew) (hb := none) (hh := none) (O := O) (O' := O) (H := H) (H' := H) ⟨fun _ _ => rfl, fun _ _ _ => rfl, fun _ _ => rfl⟩ (hst.mem h m hm) (by simp) (by simp) 0 (fun h he => by cases he) (.inl rfl)⟩
def TrAll (P : Program) (N : Nat) (w0 : World) (O0 : Nat → Nat) (l : List Oper) (Q : Post) (e : Env) (M : Mem) : List (List Nat) → Prop
  | [] => True
  | s :: r => TrOps P N w0 O0 l.toArray Q e M (pickL l s) ∧ TrAll P N w0 O0 l Q e M r
theorem TrAll.get {l : List Oper} : ∀ {ss : List (List Nat)} {s : List Nat}, TrAll P N w0 O0 l Q e M ss → s ∈ ss → TrOps P N w0 O0 l.toArray Q e M (pickL l s)
  | _ :: _, _, h, hs => by
    rcases List.mem_cons.1 hs with rfl | hs
    · exact h.1
    · exact TrAll.get h.2 hs
theorem Tr.orders {id : Nat} {l : List Oper} (ss : List (List Nat)) (hm : P.follows .mixedOrders = true) (hs : ordersOf l.toArray l.toArray.size (Array.replicate l.toArray.size false) = ss)
    (h : TrAll P N w0 O0 l Q e M ss) : Tr P N w0 O0 e M (.region id l.toArray true) Q := by
  intro O H a w hst
  refine wp_region_draw fun t => ?_
  have hmem : Region.schedule (P.follows .mixedOrders) l.toArray t ∈ ss := by
    simp only [Region.schedule, hm, Bool.true_or, if_true]
    rw [← hs]
    exact ordersOf_mem _ _ _
  exact wpOps_pick.2 (h.get hmem O H a _ hst.drew)
end
/-! ### Strictly sorted lists -/
theorem pw_uniq {α : Type} {r : α → α → Prop} (asy : ∀ x y, r x y → ¬ r y x) : ∀ {l l' : List α}, l.Pairwise r → l'.Pairwise r → (∀ x, x ∈ l ↔ x ∈ l') → l = l'
  | [], [], _, _, _ => rfl
  | [], y :: l', _, _, h => by have := (h y).2 (by simp); simp at this
  | x :: l, [], _, _, h => by have := (h x).1 (by simp); simp at this
  | x :: l, y :: l', h1, h2, h => by
    rw [List.pairwise_cons] at h1 h2
    have irr : ∀ z, ¬ r z z := fun z hz => asy z z hz hz
    have hxy : x = y := by
      rcases List.mem_cons.1 ((h x).1 (by simp)) with e | e
      · exact e
      · rcases List.mem_cons.1 ((h y).2 (by simp)) with e' | e'
        · exact e'.symm
        · exact absurd (h1.1 y e') (asy _ _ (h2.1 x e))
    subst hxy
    have ht : ∀ z, z ∈ l ↔ z ∈ l' := fun z => by
      constructor
      · intro hz
        rcases List.mem_cons.1 ((h z).1 (by simp [hz])) with e | e
        · subst e; exact absurd (h1.1 z hz) (irr z)
        · exact e
      · intro hz
        rcases List.mem_cons.1 ((h z).2 (by simp [hz])) with e | e
        · subst e; exact absurd (h2.1 z hz) (irr z)
        · exact e
    rw [pw_uniq asy h1.2 h2.2 ht]
theorem arcLt_asy (x y : Arc) (h : arcLt x y) : ¬ arcLt y x := by unfold arcLt at *; omega
theorem arcLt_tot {x y : Arc} (h : ¬ arcLt x y) (h' : x ≠ y) : arcLt y x := by
  refine Classical.byContradiction fun hn => h' ?_
  obtain ⟨a, b, c⟩ := x
  obtain ⟨a', b', c'⟩ := y
  unfold arcLt at *
  simp only at *
  have : a = a' ∧ b = b' ∧ c = c' := by omega
  obtain ⟨rfl, rfl, rfl⟩ := this
  rfl
/-! ### The ends of the arcs of a label -/
def endsTo (a : Abs) (x : Int) (k : Nat) : List Asg := ((a.arcs.take k).filter fun r => decide (r.lab = x)).map fun r => (r.fr, r.to)
def endsL (a : Abs) (x : Int) : List Asg := endsTo a x a.arcs.length
theorem endsTo_len {a : Abs} {x : Int} {k : Nat} : (endsTo a x k).length ≤ k := by
  unfold endsTo
  have := List.length_filter_le (fun r : Arc => decide (r.lab = x)) (a.arcs.take k)
  simp only [List.length_map, List.length_take] at *
  omega
theorem endsTo_t {a : Abs} {x : Int} {k : Nat} (hk : k < a.arcs.length) (h : (nth a.arcs k).lab = x) : endsTo a x k ++ [((nth a.arcs k).fr, (nth a.arcs k).to)] = endsTo a x (k + 1) := by
  rw [nth_eq hk] at *
  unfold endsTo
  rw [List.take_add_one, List.getElem?_eq_getElem hk, List.filter_append, List.map_append]
  simp [h]
theorem endsTo_f {a : Abs} {x : Int} {k : Nat} (hk : k < a.arcs.length) (h : (nth a.arcs k).lab ≠ x) : endsTo a x k = endsTo a x (k + 1) := by
  rw [nth_eq hk] at *
  unfold endsTo
  rw [List.take_add_one, List.getElem?_eq_getElem hk, List.filter_append, List.map_append]
  simp [h]
theorem mem_ends {a : Abs} {x p q : Int} : (p, q) ∈ endsL a x ↔ (⟨p, x, q⟩ : Arc) ∈ a.arcs := by
  unfold endsL endsTo
  rw [List.take_length, List.mem_map]
  constructor
  · rintro ⟨⟨f, l, t⟩, hr, he⟩
    rw [List.mem_filter] at hr
    simp only [Prod.mk.injEq] at he
    obtain ⟨rfl, rfl⟩ := he
    have : l = x := by simpa using hr.2
    rw [← this]; exact hr.1
  · intro h
    exact ⟨_, List.mem_filter.2 ⟨h, by simp⟩, rfl⟩
theorem ends_sorted {a : Abs} (ha : AbsOk a) {x : Int} : (endsL a x).Pairwise fun p q => p.1 < q.1 ∨ (p.1 = q.1 ∧ p.2 < q.2) := by
  unfold endsL endsTo
  rw [List.take_length, List.pairwise_map]
  have h := List.Pairwise.and_mem.1 ((absOk_sorted ha).filter fun r => decide (r.lab = x))
  refine List.Pairwise.imp ?_ h
  rintro ⟨f, l, t⟩ ⟨f', l', t'⟩ ⟨h1, h2, h3⟩
  have e1 : l = x := by simpa using (List.mem_filter.1 h1).2
  have e2 : l' = x := by simpa using (List.mem_filter.1 h2).2
  unfold arcLt at h3
  simp only at *
  omega
theorem ends_eq {a : Abs} (ha : AbsOk a) {x y : Int} : endsL a x = endsL a y ↔ ∀ p q : Int, (⟨p, x, q⟩ : Arc) ∈ a.arcs ↔ (⟨p, y, q⟩ : Arc) ∈ a.arcs := by
  constructor
  · intro h p q
    rw [← mem_ends, ← mem_ends, h]
  · intro h
    refine pw_uniq (fun p q => by omega) (ends_sorted ha) (ends_sorted ha) fun ⟨p, q⟩ => ?_
    rw [mem_ends, mem_ends]; exact h p q
theorem mem_in {a : Abs} (ha : AbsOk a) {x : Arc} (h : x ∈ a.arcs) : arcIn a x := by
  obtain ⟨i, hi, rfl⟩ := List.getElem_of_mem h
  have := ha.arc i hi
  rwa [nth_eq hi] at this
/-! ### Equivalent labels -/
def EqvP (l : List Abs) (c : List Int) (ex x y : Int) : Prop := nth c x = nth c y ∧ ∀ i : Nat, i < l.length → (i : Int) ≠ ex → endsL (nth l i) x = endsL (nth l i) y
instance (l : List Abs) (c : List Int) (ex x y : Int) : Decidable (EqvP l c ex x y) := by unfold EqvP; infer_instance
theorem EqvP.refl {l : List Abs} {c : List Int} {ex x : Int} : EqvP l c ex x x := ⟨rfl, fun _ _ _ => rfl⟩
theorem EqvP.symm {l : List Abs} {c : List Int} {ex x y : Int} (h : EqvP l c ex x y) : EqvP l c ex y x := ⟨h.1.symm, fun i h1 h2 => (h.2 i h1 h2).symm⟩
theorem EqvP.trans {l : List Abs} {c : List Int} {ex x y z : Int} (h : EqvP l c ex x y) (k : EqvP l c ex y z) : EqvP l c ex x z := ⟨h.1.trans k.1, fun i h1 h2 => (h.2 i h1 h2).trans (k.2 i h1 h2)⟩
theorem eqv_1 {l : List Abs} {c : List Int} {ex x y : Int} (h : nth c x ≠ nth c y) : false = decide (EqvP l c ex x y) := (decide_eq_false fun hn => h hn.1).symm
theorem eqv_2 {l : List Abs} {c : List Int} {ex x y : Int} {i : Nat} (hi : i < l.length) (hx : (i : Int) ≠ ex) (h : endsL (nth l i) x ≠ endsL (nth l i) y) : false = decide (EqvP l c ex x y) := (decide_eq_false fun hn => h (hn.2 i hi hx)).symm
theorem eqv_0 {l : List Abs} {c : List Int} {ex x y : Int} (h : nth c x = nth c y) (h' : ∀ i : Nat, i < l.length → (i : Int) ≠ ex → endsL (nth l i) x = endsL (nth l i) y) : true = decide (EqvP l c ex x y) := (decide_eq_true ⟨h, h'⟩).symm
/-- The smallest equivalent label. -/
def lowE (l : List Abs) (c : List Int) (ex : Int) (b : Nat) : Nat := ((List.range b).find? fun (a : Nat) => decide (EqvP l c ex a b)).getD b
theorem lowE_of {l : List Abs} {c : List Int} {ex : Int} {a b : Nat} (hab : a ≤ b) (h : EqvP l c ex a b) (hn : ∀ j : Nat, j < a → ¬ EqvP l c ex j b) : lowE l c ex b = a := by
  unfold lowE
  by_cases he : a = b
  · subst he
    rw [List.find?_eq_none.2 (fun j hj => by simpa using hn j (List.mem_range.1 hj))]; rfl
  · have : (List.range b).find? (fun (a : Nat) => decide (EqvP l c ex a b)) = some a := by
      rw [List.find?_range_eq_some]
      exact ⟨by simpa using h, by simp; omega, fun j hj => by simpa using hn j hj⟩
    rw [this]; rfl
theorem lowE_ex (l : List Abs) (c : List Int) (ex : Int) (b : Nat) : lowE l c ex b ≤ b ∧ EqvP l c ex (lowE l c ex b) b ∧ ∀ j : Nat, j < lowE l c ex b → ¬ EqvP l c ex j b := by
  have key : ∃ a : Nat, a ≤ b ∧ EqvP l c ex a b ∧ ∀ j : Nat, j < a → ¬ EqvP l c ex j b := by
    have : ∀ n : Nat, n ≤ b + 1 → (∃ a : Nat, a < n ∧ EqvP l c ex a b ∧ ∀ j : Nat, j < a → ¬ EqvP l c ex j b) ∨ ∀ j : Nat, j < n → ¬ EqvP l c ex j b := by
      intro n
      induction n with
      | zero => exact fun _ => .inr fun j hj => by omega
      | succ n ih =>
        intro hn
        rcases ih (by omega) with ⟨a, h1, h2, h3⟩ | h
        · exact .inl ⟨a, by omega, h2, h3⟩
        · by_cases hb : EqvP l c ex n b
          · exact .inl ⟨n, by omega, hb, h⟩
          · refine .inr fun j hj => ?_
            by_cases e : j = n
            · subst e; exact hb
            · exact h j (by omega)
    rcases this (b + 1) (Nat.le_refl _) with ⟨a, h1, h2, h3⟩ | h
    · exact ⟨a, by omega, h2, h3⟩
    · exact absurd EqvP.refl (h b (by omega))
  obtain ⟨a, h1, h2, h3⟩ := key
  rw [lowE_of h1 h2 h3]
  exact ⟨h1, h2, h3⟩
def redTo (l : List Abs) (c : List Int) (ex : Int) (k : Nat) : List Int := (List.range k).map fun (b : Nat) => (lowE l c ex b : Int)
theorem redTo_s {l : List Abs} {c : List Int} {ex : Int} {k : Nat} : redTo l c ex (k + 1) = redTo l c ex k ++ [(lowE l c ex k : Int)] := by simp [redTo, List.range_succ]
theorem redTo_len {l : List Abs} {c : List Int} {ex : Int} {k : Nat} : (redTo l c ex k).length = k := by simp [redTo]
theorem redTo_at {l : List Abs} {c : List Int} {ex : Int} {k b : Nat} (h : b < k) : nth (redTo l c ex k) b = lowE l c ex b := by
  rw [nth_eq (by rw [redTo_len]; exact h)]; simp [redTo]
/-- The fault of a selection of all abstractions but one. -/
def redF (l : List Abs) (c : List Int) (ex : Int) : Int × Int := if labF l c ≠ (0, 0) then labF l c else if ex < -1 ∨ (l.length : Int) ≤ ex then (3, -8) else (0, 0)
theorem redF_1 {l : List Abs} {c : List Int} {ex : Int} (h : labF l c ≠ (0, 0)) : labF l c = redF l c ex := by unfold redF; rw [if_pos h]
theorem redF_ok {l : List Abs} {c : List Int} {ex : Int} (h : redF l c ex = (0, 0)) : labF l c = (0, 0) ∧ -1 ≤ ex ∧ ex < l.length := by
  unfold redF at h
  split at h
  · rename_i hn; exact absurd h hn
  · rename_i hn
    split at h
    · cases h
    · rename_i h2; exact ⟨Decidable.not_not.1 hn, by omega, by omega⟩
theorem redF_code {l : List Abs} {c : List Int} {ex : Int} (h : (redF l c ex).1 = 0) : redF l c ex = (0, 0) := by
  unfold redF at h ⊢
  split
  · rename_i hn; rw [if_pos hn] at h; exact labF_code h
  · rename_i hn
    rw [if_neg hn] at h
    split
    · rename_i h2; rw [if_pos h2] at h; cases h
    · rfl
def redL (l : List Abs) (c : List Int) (ex : Int) : List Int := if redF l c ex = (0, 0) then redTo l c ex c.length else []
theorem redL_1 {l : List Abs} {c : List Int} {ex : Int} (h : redF l c ex ≠ (0, 0)) : redL l c ex = [] := by unfold redL; rw [if_neg h]
theorem redL_0 {l : List Abs} {c : List Int} {ex : Int} (h : redF l c ex = (0, 0)) : redL l c ex = redTo l c ex c.length := by unfold redL; rw [if_pos h]
/-- The fault of a question about two labels. -/
def outTo (f : Int × Int) (n : Int) (q : List Int) : Nat → Int × Int
  | 0 => f
  | k + 1 => if outTo f n q k = (0, 0) ∧ (nth q k < 0 ∨ n ≤ nth q k) then (3, -9) else outTo f n q k
theorem outTo_1 {f : Int × Int} {n : Int} {q : List Int} {k : Nat} (h : outTo f n q k = (0, 0)) (h' : nth q k < 0 ∨ n ≤ nth q k) : (3, -9) = outTo f n q (k + 1) := by simp only [outTo]; rw [if_pos ⟨h, h'⟩]
theorem outTo_0 {f : Int × Int} {n : Int} {q : List Int} {k : Nat} (h : ¬ (outTo f n q k = (0, 0) ∧ (nth q k < 0 ∨ n ≤ nth q k))) : outTo f n q k = outTo f n q (k + 1) := by simp only [outTo]; rw [if_neg h]
def eqvF (l : List Abs) (c : List Int) (ex x y : Int) : Int × Int := if redF l c ex ≠ (0, 0) then redF l c ex else if (x < 0 ∨ (c.length : Int) ≤ x) ∨ (y < 0 ∨ (c.length : Int) ≤ y) then (3, -9) else (0, 0)
theorem eqvF_out {l : List Abs} {c : List Int} {ex x y : Int} : outTo (redF l c ex) c.length [x, y] 2 = eqvF l c ex x y := by
  have e0 : nth [x, y] 0 = x := rfl
  have e1 : nth [x, y] 1 = y := rfl
  simp only [outTo, eqvF, Int.ofNat_zero, Int.natCast_zero, Int.natCast_one, e0, e1]
  by_cases h : redF l c ex = (0, 0)
  · simp only [h, ne_eq, not_true_eq_false, if_false, true_and]
    by_cases hx : x < 0 ∨ (c.length : Int) ≤ x
    · simp [hx]
    · by_cases hy : y < 0 ∨ (c.length : Int) ≤ y
      · simp [hx, hy]
      · simp [hx, hy]
  · simp [h]
theorem eqvF_ok {l : List Abs} {c : List Int} {ex x y : Int} (h : eqvF l c ex x y = (0, 0)) : redF l c ex = (0, 0) ∧ (0 ≤ x ∧ x < c.length) ∧ (0 ≤ y ∧ y < c.length) := by
  unfold eqvF at h
  split at h
  · rename_i hn; exact absurd h hn
  · rename_i hn
    split at h
    · cases h
    · rename_i h2; exact ⟨Decidable.not_not.1 hn, by omega, by omega⟩
theorem aplF_inv {a : Abs} {to : List Int} (h : aplF a to = (0, 0)) : AbsOk a ∧ (to.length : Int) = a.labels ∧ ∀ x, x ∈ to → 0 ≤ x ∧ x < a.labels := by
  unfold aplF at h
  split at h
  · rename_i hn; exact absurd h hn
  · rename_i hn
    split at h
    · cases h
    · rename_i hl
      split at h
      · cases h
      · rename_i hr
        refine ⟨(absFault_ok (congrArg Prod.fst (Decidable.not_not.1 hn))).1, Decidable.not_not.1 hl, fun x hx => ?_⟩
        refine Classical.byContradiction fun hc => hr ⟨x, hx, by omega⟩
def aplR (a : Abs) (to : List Int) : Abs := if aplF a to = (0, 0) then relA a to else absZ
theorem aplR_0 {a : Abs} {to : List Int} (h : aplF a to = (0, 0)) : aplR a to = relA a to := by unfold aplR; rw [if_pos h]
theorem aplR_1 {a : Abs} {to : List Int} (h : aplF a to ≠ (0, 0)) : aplR a to = absZ := by unfold aplR; rw [if_neg h]
/-- The reference's way to the fault: k labels looked at. -/
def aplW (a : Abs) (to : List Int) (k : Nat) : Int × Int := if aplF1 a to ≠ (0, 0) then aplF1 a to else if ∃ i : Nat, i < k ∧ (nth to i < 0 ∨ a.labels ≤ nth to i) then (3, -4) else (0, 0)
theorem pw_lt_len {n : Int} : ∀ {l : List Int} {x : Int}, l.Pairwise (· < ·) → (∀ y, y ∈ l → x ≤ y ∧ y < n) → (l.length : Int) ≤ max 0 (n - x)
  | [], x, _, _ => by simp; omega
  | y :: l, x, hp, hm => by
    rw [List.pairwise_cons] at hp
    have h1 := hm y (by simp)
    have := pw_lt_len (n := n) (x := y + 1) hp.2 (fun z hz => ⟨by have := hp.1 z hz; omega, (hm z (by simp [hz])).2⟩)
    simp only [List.length_cons]
    omega
theorem goals_len {a : Abs} (ha : AbsOk a) : (a.goals.length : Int) ≤ a.states := by
  have := pw_lt_len (n := a.states) (x := 0) (setP_sorted ha.goals) (fun y hy => setP_mem ha.goals hy)
  have := ha.head.1
  omega
theorem lab_arcs {l : List Abs} {c : List Int} (h : labF l c = (0, 0)) : ∀ k : Nat, k < l.length → AbsOk (nth l k) := fun k hk => ((labF_ok h).2.2.2 k hk).1
/-! ### Sorted arcs without duplicates -/
theorem ddTo_last {α : Type} [DecidableEq α] [Inhabited α] {l : List α} : ∀ {k : Nat}, 0 < k → ∃ r, ddTo l k = r ++ [nth l (k - 1 : Int)]
  | 0, h => by omega
  | k + 1, _ => by
    have e : ((k + 1 : Nat) : Int) - 1 = k := by omega
    rw [e]
    simp only [ddTo]
    split
    · rename_i h
      obtain ⟨r, hr⟩ := ddTo_last (l := l) h.1
      exact ⟨r, by rw [hr, h.2]⟩
    · exact ⟨_, rfl⟩
theorem ddTo_mem {α : Type} [DecidableEq α] [Inhabited α] {l : List α} {x : α} : ∀ {k : Nat}, k ≤ l.length → (x ∈ ddTo l k ↔ x ∈ l.take k)
  | 0, _ => by simp [ddTo]
  | k + 1, hk => by
    have ih := ddTo_mem (x := x) (l := l) (k := k) (by omega)
    have hs : l.take (k + 1) = l.take k ++ [nth l k] := by rw [List.take_add_one, List.getElem?_eq_getElem (by omega), nth_eq (by omega)]; rfl
    rw [hs]
    simp only [ddTo]
    split
    · rename_i h
      rw [ih, List.mem_append, List.mem_singleton]
      refine ⟨.inl, fun hx => hx.elim id fun hx => ?_⟩
      obtain ⟨r, hr⟩ := ddTo_last (l := l) h.1
      rw [← ih, hr, hx, h.2]; simp
    · rw [List.mem_append, List.mem_append, ih]
theorem dd_mem {α : Type} [DecidableEq α] [Inhabited α] {l : List α} {x : α} : x ∈ dd l ↔ x ∈ l := by
  unfold dd; rw [ddTo_mem (Nat.le_refl _), List.take_length]
theorem dd_strict {l : List Arc} (h : l.Pairwise fun x y => ¬ arcLt y x) : (dd l).Pairwise arcLt := by
  have hp : ∀ i j : Nat, i < j → j < l.length → ¬ arcLt (nth l j) (nth l i) := fun i j hij hj => by
    rw [nth_eq hj, nth_eq (by omega)]
    exact List.pairwise_iff_getElem.1 h i j (by omega) hj hij
  have key : ∀ k : Nat, k ≤ l.length → (ddTo l k).Pairwise arcLt := by
    intro k
    induction k with
    | zero => intro _; simp [ddTo]
    | succ k ih =>
      intro hk
      have ih := ih (by omega)
      simp only [ddTo]
      split
      · exact ih
      · rename_i hne
        rw [List.pairwise_append]
        refine ⟨ih, by simp, fun y hy z hz => ?_⟩
        rw [List.mem_singleton] at hz
        subst hz
        rw [ddTo_mem (by omega)] at hy
        obtain ⟨i, hi, rfl⟩ := List.getElem_of_mem hy
        rw [List.length_take] at hi
        have e : (l.take k)[i] = nth l i := by rw [List.getElem_take, nth_eq (by omega)]
        rw [e]
        have h0 : 0 < k := by omega
        have hn : nth l k ≠ nth l (k - 1 : Int) := fun he => hne ⟨h0, he⟩
        have e1 : ((k : Int) - 1) = ((k - 1 : Nat) : Int) := by omega
        rw [e1] at hn
        have l1 : arcLt (nth l (k - 1 : Nat)) (nth l k) := arcLt_tot (hp (k - 1) k (by omega) (by omega)) hn
        by_cases hik : i = k - 1
        · rw [hik]; exact l1
        · by_cases he : nth l i = nth l (k - 1 : Nat)
          · rw [he]; exact l1
          · exact arcLt_trans (arcLt_tot (hp i (k - 1) (by omega) (by omega)) (fun h => he h.symm)) l1
  exact key _ (Nat.le_refl _)
theorem sd_strict {l : List Arc} : (dd (sortL l)).Pairwise arcLt := dd_strict (sortL_pw l)
theorem sd_mem {l : List Arc} {x : Arc} : x ∈ dd (sortL l) ↔ x ∈ l := by rw [dd_mem, sortL_mem]
theorem dd_len {α : Type} [DecidableEq α] [Inhabited α] {l : List α} : (dd l).length ≤ l.length := ddTo_len
theorem sd_len {l : List Arc} : (dd (sortL l)).length ≤ l.length := by have := dd_len (l := sortL l); rwa [sortL_len] at this
/-- Strictly sorted lists with the same members. -/
theorem arcs_uniq {l l' : List Arc} (h : l.Pairwise arcLt) (h' : l'.Pairwise arcLt) (hm : ∀ x, x ∈ l ↔ x ∈ l') : l = l' := pw_uniq arcLt_asy h h' hm
theorem arcs_nodup {l : List Arc} (h : l.Pairwise arcLt) : l.Nodup := List.Pairwise.imp (fun {a b} hab he => by subst he; exact arcLt_asy _ _ hab hab) h
/-! ### The reference's insertion -/
def cntL (l : List Arc) (x : Arc) : Nat := (l.takeWhile fun y => decide (arcLt y x)).length
def skpL (l : List Arc) (x : Arc) : Nat := if cntL l x < l.length ∧ nth l (cntL l x) = x then cntL l x + 1 else cntL l x
def insL (l : List Arc) (x : Arc) : List Arc := l.take (cntL l x) ++ [x] ++ l.drop (skpL l x)
def insTo (f : Nat → Arc) : Nat → List Arc
  | 0 => []
  | k + 1 => insL (insTo f k) (f k)
/-- The arcs with other labels. -/
def relI (a : Abs) (to : List Int) (i : Nat) : Arc := ⟨(nth a.arcs i).fr, nth to (nth a.arcs i).lab, (nth a.arcs i).to⟩
theorem relTo_mem {a : Abs} {to : List Int} {y : Arc} : y ∈ relTo a to a.arcs.length ↔ ∃ x, x ∈ a.arcs ∧ y = ⟨x.fr, nth to x.lab, x.to⟩ := by
  unfold relTo
  rw [List.take_length, List.mem_map]
  exact ⟨fun ⟨x, h1, h2⟩ => ⟨x, h1, h2.symm⟩, fun ⟨x, h1, h2⟩ => ⟨x, h1, h2.symm⟩⟩
theorem rel_mem {a : Abs} {to : List Int} {y : Arc} : y ∈ (relA a to).arcs ↔ ∃ x, x ∈ a.arcs ∧ y = ⟨x.fr, nth to x.lab, x.to⟩ := by
  show y ∈ dd (sortL _) ↔ _
  rw [sd_mem, relTo_mem]
theorem rel_ok {a : Abs} {to : List Int} (h : aplF a to = (0, 0)) : AbsOk (relA a to) := by
  obtain ⟨ha, hl, hr⟩ := aplF_inv h
  refine absOk_of ha.head (setP_sorted ha.goals) (fun x hx => setP_mem ha.goals hx) ?_ sd_strict fun y hy => ?_
  · have h1 := sd_len (l := relTo a to a.arcs.length)
    rw [relTo_len (Nat.le_refl _)] at h1
    have := ha.len
    show (dd (sortL (relTo a to a.arcs.length))).length ≤ 400
    omega
  · obtain ⟨x, hx, rfl⟩ := rel_mem.1 hy
    have h1 := mem_in ha hx
    exact ⟨h1.1, hr _ (nth_mem h1.2.1.1 (by omega)), h1.2.2⟩
/-! ### Distances depend on the set of edges alone -/
theorem fixE_mem {n : Nat} {E E' : List Edge} (hE : EdgeOk n E) (hE' : EdgeOk n E') (h : ∀ e, e ∈ E ↔ e ∈ E') {d : List Int} (hg : GoodD n d) : fixE E d = fixE E' d := by
  have key : ∀ {A B : List Edge}, EdgeOk n A → EdgeOk n B → (∀ e, e ∈ A → e ∈ B) → ∀ x : Int, 0 ≤ x → x < n → nth (fixE B d) x ≤ nth (fixE A d) x := by
    intro A B hA hB hs x h0 h1
    refine fixE_ge hA hg (f := fun x => nth (fixE B d) x) (fun x h0 h1 => fixE_le hB hg h0 h1) (fun i hi => ?_) h0 h1
    obtain ⟨j, hj, he⟩ := List.getElem_of_mem (hs (nth A i) (nth_mem (by omega) (by omega)))
    have := fixE_tri hB hg hj
    rw [nth_eq hj, he] at this
    exact this
  have g1 := fixE_good hE hg
  have g2 := fixE_good hE' hg
  refine ext_get (by rw [g1.1, g2.1]) fun i hi => ?_
  have h1 := key hE hE' (fun e he => (h e).1 he) i (by omega) (by rw [← g1.1]; omega)
  have h2 := key hE' hE (fun e he => (h e).2 he) i (by omega) (by rw [← g1.1]; omega)
  omega
theorem edges_mem {a : Abs} {c : List Int} {e : Edge} : e ∈ edgesOf a c ↔ ∃ x, x ∈ a.arcs ∧ e = ⟨x.fr, x.to, nth c x.lab⟩ := by
  unfold edgesOf
  rw [List.mem_map]
  exact ⟨fun ⟨x, h1, h2⟩ => ⟨x, h1, h2.symm⟩, fun ⟨x, h1, h2⟩ => ⟨x, h1, h2.symm⟩⟩
theorem distL_cong {a b : Abs} {c : List Int} (ha : AbsOk a) (hc : CostFor a c) (hb : AbsOk b) (hcb : CostFor b c) (hs : a.states = b.states) (hg : ∀ x, x ∈ a.goals ↔ x ∈ b.goals) (h : ∀ e, e ∈ edgesOf a c ↔ e ∈ edgesOf b c) : distL a c = distL b c := by
  have hn : nS a = nS b := by unfold nS; rw [hs]
  have hi : initG a = initG b := by
    unfold initG
    rw [hn]
    refine List.map_congr_left fun x _ => ?_
    by_cases hx : (x : Int) ∈ a.goals
    · rw [if_pos hx, if_pos ((hg _).1 hx)]
    · rw [if_neg hx, if_neg (fun h => hx ((hg _).2 h))]
  unfold distL
  rw [hi]
  exact fixE_mem (hn ▸ edgesOk ha hc) (edgesOk hb hcb) h initG_good
/-! ### The example -/
abbrev exL : Abs := ⟨2, 3, [⟨0, 0, 1⟩, ⟨0, 2, 1⟩], 0, [1]⟩
theorem exL_red : redF [exL] [1, 1, 1] (-1) = (0, 0) := by decide +kernel
theorem exL_redL : redL [exL] [1, 1, 1] (-1) = [0, 1, 0] := by decide +kernel
theorem exL_apl : aplF exL [0, 1, 0] = (0, 0) := by decide +kernel
theorem exL_eqv : eqvF [exL] [1, 1, 1] (-1) 0 2 = (0, 0) ∧ EqvP [exL] [1, 1, 1] (-1) 0 2 := by decide +kernel
theorem exL_arcs : (relA exL [0, 1, 0]).arcs = [⟨0, 0, 1⟩] := by
  refine arcs_uniq sd_strict (by simp) fun y => ?_
  rw [rel_mem]
  simp [nth]
theorem exL_rel : aplR exL [0, 1, 0] = ⟨2, 3, [⟨0, 0, 1⟩], 0, [1]⟩ := by
  rw [aplR_0 exL_apl]
  exact abs_ext rfl rfl exL_arcs rfl rfl
section
variable {P : Program} {B : Nat} {o : Oper} {e : Env} {M : Mem}
end
section
variable {P : Program} {B : Nat} {o : Oper} {e : Env} {M : Mem}
end
end Go.Eng
end
