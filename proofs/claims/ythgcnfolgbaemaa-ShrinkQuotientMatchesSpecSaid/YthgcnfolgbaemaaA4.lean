/- The engine and the walks that this claim uses, part 4. Written by prune.py out of our own texts. -/
import Derived.Test.YthgcnfolgbaemaaA3
import Derived.RangeFuncFrom
import Derived.RangeFuncLeaves
import Derived.TacticsIn
import Derived.RangeFuncBox
import Derived.WalkKit
import Derived.OwnWalkIn
import Derived.TacticsInMore
import Derived.LoopNIn
import Derived.LoopIn
import Derived.Shelf.SlSortCmp.NoneTotal
import Derived.Shelf.SlGeneric
import Derived.Ground.SlsfProg
import Derived.Deep.Cut
import Derived.Deep.RegionHeld3
import Derived.Deep.Draws
import Derived.Sort.Grow
section
/- Plans of a task and of its projections; compatible patterns. -/

set_option linter.unusedVariables false
set_option linter.unusedSimpArgs false
set_option linter.unusedSectionVars false
namespace Go.Eng
open Go
abbrev StepP (n : Int) (plan : List Int) : Prop := ∀ i : Nat, i < plan.length → 0 ≤ nth plan i ∧ nth plan i < n
def stepsF (n : Int) (plan : List Int) : Int × Int := if 60 < plan.length then (2, -5) else if ¬ StepP n plan then (3, -6) else (0, 0)
def planF (m : Multi) (plan : List Int) : Int × Int := if validate m = (0, 0) then stepsF m.ops.length plan else validate m
def itS (m : Multi) (plan : List Int) : Nat → List Int
  | 0 => m.init
  | k + 1 => nextS (itS m plan k) (nth m.ops (nth plan k)).post
abbrev okTo (m : Multi) (plan : List Int) (k : Nat) : Prop := ∀ i : Nat, i < k → holds (itS m plan i) (nth m.ops (nth plan i)).pre = true
def solvesB (m : Multi) (plan : List Int) : Bool := decide (okTo m plan plan.length) && holds (itS m plan plan.length) m.goal
def solvesR (m : Multi) (plan : List Int) : Bool := decide (planF m plan = (0, 0)) && solvesB m plan
/-! ### Compatible patterns -/
/-- An operator changes a variable of the pattern. -/
def chg (l : List Asg) (vars : List Int) : Bool := l.any fun x => decide (x.1 ∈ vars)
def compat (m : Multi) (a b : List Int) : Bool := !(m.ops.any fun o => chg o.post a && chg o.post b)
/-! ### Finite costs are small -/
def liftI (L c : Int) : Int := if L + 100 < c ∧ c < 1000000000 then c + 1 else c
section
variable {m : Multi} (hv : Valid m)
include hv
end
end Go.Eng
end

section
/- The greatest sum of the values of compatible patterns, found in two ways. -/

set_option linter.unusedVariables false
set_option linter.unusedSimpArgs false
set_option linter.unusedSectionVars false
namespace Go.Eng
open Go
def plusI (a b : Int) : Int := if a = 1000000000 ∨ b = 1000000000 then 1000000000 else min (a + b) 999999999
abbrev ValsOk (V : List Int) : Prop := ∀ i : Nat, i < V.length → 0 ≤ nth V i ∧ nth V i ≤ 1000000000 ∧ (nth V i < 1000000000 → nth V i ≤ 200000)
def bestV (V : List Int) (C : Nat → Nat → Bool) : Nat → Nat → List Nat → Int
  | 0, _, _ => 0
  | n + 1, i, ch => if ch.any (fun k => !C i k) = true then bestV V C n (i + 1) ch else max (bestV V C n (i + 1) ch) (plusI (nth V i) (bestV V C n (i + 1) (ch ++ [i])))
/-- The sum of the values of some of the places from i on. -/
def sumR (V : List Int) (p : Nat → Bool) : Nat → Nat → Int
  | _, 0 => 0
  | i, n + 1 => if p i = true then plusI (nth V i) (sumR V p (i + 1) n) else sumR V p (i + 1) n
def putB (p : Nat → Bool) (i : Nat) (b : Bool) : Nat → Bool := fun x => if x = i then b else p x
section
variable {V : List Int} (hV : ValsOk V) {C : Nat → Nat → Bool}
include hV
abbrev FitsR (C : Nat → Nat → Bool) (p : Nat → Bool) (i n : Nat) (ch : List Nat) : Prop := (∀ x, i ≤ x → x < i + n → p x = true → ∀ k, k ∈ ch → C x k = true) ∧ ∀ x, i ≤ x → x < i + n → p x = true → ∀ y, i ≤ y → y < x → p y = true → C x y = true
omit hV in
theorem putB_same {p : Nat → Bool} {i : Nat} {b : Bool} : putB p i b i = b := by unfold putB; rw [if_pos rfl]
omit hV in
theorem putB_ne {p : Nat → Bool} {i x : Nat} {b : Bool} (h : x ≠ i) : putB p i b x = p x := by unfold putB; rw [if_neg h]
end
/-! ### The same sum from the other end -/
def sumL (V : List Int) (p : Nat → Bool) : Nat → Int
  | 0 => 0
  | k + 1 => if p k = true then (if nth V k = 1000000000 ∨ sumL V p k = 1000000000 then 1000000000 else sumL V p k + nth V k) else sumL V p k
/-- Plainly added. -/
def seg (V : List Int) (p : Nat → Bool) (i : Nat) : Nat → Int
  | 0 => 0
  | n + 1 => seg V p i n + (if p (i + n) = true then nth V ((i + n : Nat) : Int) else 0)
abbrev InfR (V : List Int) (p : Nat → Bool) (i n : Nat) : Prop := ∃ x, i ≤ x ∧ x < i + n ∧ p x = true ∧ nth V x = 1000000000
section
variable {V : List Int} (hV : ValsOk V)
include hV
end
/-! ### Words as sets -/
def bitI (w : Nat) (i : Nat) : Bool := decide (w / 2 ^ i % 2 = 1)
def wordOf (p : Nat → Bool) : Nat → Nat
  | 0 => 0
  | k + 1 => wordOf p k + (if p k = true then 2 ^ k else 0)
abbrev FitsW (C : Nat → Nat → Bool) (n w : Nat) : Prop := ∀ i : Nat, i < n → bitI w i = true → ∀ k : Nat, k < i → bitI w k = true → C i k = true
instance {C : Nat → Nat → Bool} {n w : Nat} : Decidable (FitsW C n w) := inferInstance
def bestW (V : List Int) (C : Nat → Nat → Bool) (n : Nat) : Nat → Int
  | 0 => 0
  | w + 1 => if FitsW C n w then max (bestW V C n w) (sumL V (bitI w) n) else bestW V C n w
/-! ### Sums are admissible -/
abbrev PatsOk (m : Multi) (pats : List (List Int)) : Prop := ∀ i : Nat, i < pats.length → (nth pats i).length ≠ 0 ∧ PatP m.sizes (nth pats i) ∧ prodTo m.sizes (nth pats i) (nth pats i).length ≤ 2000
noncomputable def valsL (m : Multi) (pats : List (List Int)) (s : List Int) : List Int := pats.map fun vars => pval m vars s
def cmpF (m : Multi) (pats : List (List Int)) (i k : Nat) : Bool := compat m (nth pats i) (nth pats k)
section
variable {m : Multi} {pats : List (List Int)} (hv : Valid m) (hp : PatsOk m pats)
include hv hp
end
/-! ### The order does not matter -/
/-! ### Faults and answers of the package -/
def cmpT (m : Multi) (a b : List Int) : Int × Int := if projFault m a = (0, 0) then patFault m.sizes b (-9) else projFault m a
def cmpR (m : Multi) (a b : List Int) : Bool := decide (cmpT m a b = (0, 0)) && compat m a b
/-- The fault of the patterns. -/
def patsF (m : Multi) (pats : List (List Int)) (s : List Int) : Nat → Int × Int
  | 0 => (0, 0)
  | k + 1 => if patsF m pats s k = (0, 0) then (if valF m (nth pats k) s = (0, 0) then (0, 0) else ((valF m (nth pats k) s).1, k)) else patsF m pats s k
def addF (m : Multi) (pats : List (List Int)) (s : List Int) : Int × Int := if stateFault m s ≠ (0, 0) then stateFault m s else if 6 < pats.length then (2, -9) else patsF m pats s pats.length
noncomputable def addR (m : Multi) (pats : List (List Int)) (s : List Int) : Int := if addF m pats s = (0, 0) then bestV (valsL m pats s) (cmpF m pats) pats.length 0 [] else 0
/-! ### The walk's words -/
noncomputable def valsTo (m : Multi) (pats : List (List Int)) (s : List Int) (k : Nat) : List Int := (List.range k).map fun (i : Nat) => valR m (nth pats i) s
def chI (ch : List Nat) : List Int := ch.map fun (k : Nat) => (k : Int)
end Go.Eng
end

section
/- The laws of sums of patterns. -/


set_option linter.unusedVariables false
set_option linter.unusedSimpArgs false
set_option linter.unusedSectionVars false
namespace Go.Eng
open Go
def backTo (pats : List (List Int)) : Nat → List (List Int)
  | 0 => []
  | k + 1 => backTo pats k ++ [nth pats ((pats.length - 1 - k : Nat) : Int)]
/-! ### Shifts -/
/-! ### The greatest sum, word by word -/
def fitK (C : Nat → Nat → Bool) (w i : Nat) : Nat → Bool
  | 0 => true
  | k + 1 => fitK C w i k && (!bitI w k || C i k)
/-! ### The fault, pattern by pattern -/
def patA (m : Multi) (pats : List (List Int)) (k : Nat) : Int × Int := patFault m.sizes (nth pats k) k
def addK (m : Multi) (pats : List (List Int)) (s : List Int) (k : Nat) : Int × Int := if stateFault m s ≠ (0, 0) then stateFault m s else if 6 < pats.length then (2, -9) else patsF m pats s k
end Go.Eng
end

section
/- Cost partitions. -/


set_option linter.unusedVariables false
set_option linter.unusedSimpArgs false
set_option linter.unusedSectionVars false
namespace Go.Eng
open Go
/-! ### The first fault of several -/
def firstF (f : Nat → Int × Int) : Nat → Int × Int
  | 0 => (0, 0)
  | k + 1 => if firstF f k = (0, 0) then f k else firstF f k
/-! ### Abstractions with costs of labels -/
def labA (c : List Int) (a : Abs) (k : Int) : Int × Int := if (absFault a).1 ≠ 0 then ((absFault a).1, k) else if a.labels ≠ c.length then (9, k) else (0, 0)
def labF (l : List Abs) (c : List Int) : Int × Int := if 6 < l.length then (2, -1) else if costFault c (min (c.length : Int) 40) (-4) ≠ (0, 0) then costFault c (min (c.length : Int) 40) (-4) else firstF (fun k => labA c (nth l k) k) l.length
/-! ### Parts -/
def prtF (c : List Int) (ps : List (List Int)) : Int × Int := if labF [] c ≠ (0, 0) then labF [] c else if 6 < ps.length then (2, -1) else firstF (fun k => costFault (nth ps k) c.length k) ps.length
def colS (ps : List (List Int)) (x : Nat) : Nat → Int
  | 0 => 0
  | k + 1 => colS ps x k + nth (nth ps k) x
abbrev FitsP (c : List Int) (ps : List (List Int)) : Prop := ∀ x : Nat, x < c.length → colS ps x ps.length ≤ nth c x
/-! ### Equal parts -/
def shareI (c n i : Int) : Int := c / n + (if i < c % n then 1 else 0)
def uniF (c : List Int) (n : Int) : Int × Int := if labF [] c ≠ (0, 0) then labF [] c else if n < 1 ∨ 6 < n then (3, -5) else (0, 0)
def rowTo (c : List Int) (n i : Int) (j : Nat) : List Int := (c.take j).map fun x => shareI x n i
def uniTo (c : List Int) (n : Int) : Nat → List (List Int)
  | 0 => []
  | k + 1 => uniTo c n k ++ [rowTo c n k c.length]
def uniL (c : List Int) (n : Int) : List (List Int) := if uniF c n = (0, 0) then uniTo c n n.toNat else []
/-! ### Needed costs -/
def needI (a : Abs) (d : List Int) (x : Int) : Nat → Int
  | 0 => 0
  | k + 1 => if (nth a.arcs k).lab = x ∧ nth d (nth a.arcs k).to < 1000000000 then max (needI a d x k) (nth d (nth a.arcs k).fr - nth d (nth a.arcs k).to) else needI a d x k
def needL (a : Abs) (d : List Int) (k : Nat) : List Int := (List.range a.labels.toNat).map fun (x : Nat) => needI a d x k
/-! ### Saturated costs -/
def subTo (a b : List Int) : Nat → List Int
  | 0 => a
  | j + 1 => (subTo a b j).set j (nth (subTo a b j) j - nth b j)
noncomputable def lefTo (l : List Abs) (c : List Int) : Nat → List Int
  | 0 => c
  | k + 1 => subTo (lefTo l c k) (needL (nth l k) (distL (nth l k) (lefTo l c k)) (nth l k).arcs.length) (lefTo l c k).length
noncomputable def ndL (l : List Abs) (c : List Int) (k : Nat) : List Int := needL (nth l k) (distL (nth l k) (lefTo l c k)) (nth l k).arcs.length
noncomputable def prtT (l : List Abs) (c : List Int) : Nat → List (List Int)
  | 0 => []
  | k + 1 => prtT l c k ++ [ndL l c k]
noncomputable def valT (l : List Abs) (c : List Int) : Nat → List Int
  | 0 => []
  | k + 1 => valT l c k ++ [nth (distL (nth l k) (lefTo l c k)) (nth l k).init]
noncomputable def satP (l : List Abs) (c : List Int) : List (List Int) := if labF l c = (0, 0) then prtT l c l.length else []
noncomputable def satV (l : List Abs) (c : List Int) : List Int := if labF l c = (0, 0) then valT l c l.length else []
end Go.Eng
end

section
/- Walks, written by gen.py out of hints. -/



set_option linter.unusedVariables false
set_option linter.unusedSimpArgs false
namespace Go.Proofs.Ythgcnfolgbaemaa
open Go.Eng
set_option maxRecDepth 10000
set_option maxHeartbeats 1000000



end Go.Proofs.Ythgcnfolgbaemaa
end

section
/- The laws of cost partitions. -/

set_option linter.unusedVariables false
set_option linter.unusedSimpArgs false
set_option linter.unusedSectionVars false
namespace Go.Eng
open Go
def prtR (c : List Int) (ps : List (List Int)) : Bool := decide (prtF c ps = (0, 0)) && decide (FitsP c ps)
/-! ### Equal parts -/
/-! ### Saturated parts -/
/-! ### The example -/
abbrev lineA : Abs := ⟨3, 2, [⟨0, 0, 1⟩, ⟨1, 1, 2⟩, ⟨2, 1, 2⟩], 0, [2]⟩
end Go.Eng
end

section
/- The engine, ranges over functions: what an iterator owes. -/










set_option linter.unusedSimpArgs false
set_option linter.unnecessarySimpa false
set_option linter.unusedVariables false
namespace Go.Eng
open Go.RowKit (Below)

theorem rowsIn_wide {n : Nat} {P : Program} {row : String} {args : Array Value} {w : World} {R : Value → World → Prop} (h : Go.Rows P row args w R) : Go.RowsIn Fence.wide n P row args w R :=
  fun c cs _ => let ⟨v, w', r, s⟩ := h c cs; ⟨v, w', r, stepsIn_wide.2 s⟩

/-- An operation that ends in no panic, seen from inside the wide fence. -/
theorem Oper.wpIn_of {P : Program} {o : Oper} {a : Act} {w : World} {K : Act → World → Prop} (h : o.wp P a w K (fun _ _ _ => False)) (n : Nat) (Q : Post) : o.wpIn Fence.wide n P a w K Q := by
  refine ⟨fun f _ => trivial, ?_⟩
  have hs : o.semAt Fence.wide.round a.eval = execOp a.eval o := rfl
  rw [hs]
  unfold Oper.wp at h
  generalize (execOp a.eval o).run P w = r at h
  cases r with
  | ok nx w' =>
    cases nx <;> simp only [Oper.upon, Oper.uponIn] at h ⊢ <;> first
      | exact h
      | exact h.elim
      | (refine ⟨fun hd => by simp [Fence.wide] at hd, callsIn_wide.2 (Calls.mono h fun e w'' he => ?_)⟩
         cases e with
         | returned v => exact he
         | panicked c => exact he.elim
         | outgrown => obtain ⟨_, _, h⟩ := he; exact h.elim)
      | exact ⟨fun hd => by simp [Fence.wide] at hd, rowsIn_wide h⟩
  | halt x w' => cases x <;> simp only [Oper.upon, Oper.uponIn] at h ⊢

section
variable {P : Program} {N : Nat} {w0 : World} {O0 : Nat → Nat} {ops : Array Oper} {Q : Post} {e : Env} {M : Mem} {rest : List Oper} {o : Oper} {s : S}

/-- A list of operations, inside the wide fence: a call of yield may stand among them. -/
def TrL (n : Nat) (P : Program) (N : Nat) (w0 : World) (O0 : Nat → Nat) (ops : Array Oper) (Q : Post) (e : Env) (M : Mem) (rest : List Oper) : Prop :=
  ∀ (O : Nat → Nat) (H : Nat → Value) (a : Act) (w : World), St N w0 O0 e M O H a w → wpListIn Fence.wide n P ops Q rest a w

theorem TrL.nil {n : Nat} (h : At N w0 O0 e M .normal Q) : TrL n P N w0 O0 ops Q e M [] := fun O H a w hst => h O H a w hst

theorem TrL.sem {n : Nat} (hsem : OpSem P w0.heap.size o e M s none) {d : Nat} (hg : o.guard = none) (hd : o.dst = some d) (hdN : d < N)
    (h : TrL n P N w0 O0 ops Q ((d, s) :: e) M rest) : TrL n P N w0 O0 ops Q e M (o :: rest) := by
  intro O H a w hst
  refine wpListIn_plain hg fun K hK => Oper.wpIn_of (hsem O H a w hst.size (hst.slotsAt _) hst.mem K ?_) n Q
  intro O' H' w' x hk hb hr _
  have hsz := hst.size
  refine hK _ _ (h O' H' _ _ ⟨?_, ?_, hst.bl.trans (hb.mono hst.size), fun b hb' => (hk.lab b (by omega)).trans (hst.lab b hb'), ?_, fun h' m hm => ?_⟩)
  · rw [hd]; exact hst.df
  · rw [hd]; simp [Act.put, hst.sz]
  · rw [hd]
    exact put_slots hst.sz hdN hr fun n s hs => by
      obtain ⟨y, hy, hr⟩ := hst.slots n s hs
      exact ⟨y, hy, hr.mono0 hk⟩
  · exact (hst.mem h' m hm).mono hk (by simp) (by simp) 0 (fun h he => by cases he) (.inl rfl)

/-- What an iterator may still say of a value when a round has run: what lay below n0 lies as it lay. -/
def capK (lb : Value) (Oc : Nat → Nat) (W : World) : Kr := {
  q O w x := x = lb ∧ Keeps Oc W O w
  mono := fun O w O' w' x hk h => ⟨h.1, h.2.trans hk⟩ }

def belowO (n0 : Nat) (Oc : Nat → Nat) : Nat → Nat := fun b => if b < n0 then Oc b else 1

theorem capK_next {lb : Value} {Oc O : Nat → Nat} {W w w' : World} {x : Value} (h : (capK lb Oc W).q O w x) (hb : Below W.heap.size w w') : (capK lb Oc W).q (belowO W.heap.size Oc) w' x :=
  ⟨h.1, fun b hlt h0 => ⟨by simp [belowO, hlt, h0], (hb.block b hlt).trans (h.2 b hlt h0).2⟩⟩

/-- Which slots outlive a round: data without memory, and what is captured. -/
def Stays (W0 : World) (Oc : Nat → Nat) (e : Env) : Prop := ∀ n s, look e n = some s → S.flat 9 s = true ∨ ∃ lb, s = .a (capK lb Oc W0)
theorem Stays.nil {W0 : World} {Oc : Nat → Nat} : Stays W0 Oc [] := fun n s h => by cases h
theorem Stays.flat {W0 : World} {Oc : Nat → Nat} {n : Nat} {s : S} {e : Env} (h : S.flat 9 s = true) (t : Stays W0 Oc e) : Stays W0 Oc ((n, s) :: e) := fun m s' hl => by
  rcases look_cons hl with ⟨rfl, rfl⟩ | ⟨_, hl⟩
  · exact .inl h
  · exact t m s' hl
theorem Stays.cap {W0 : World} {Oc : Nat → Nat} {n : Nat} {lb : Value} {e : Env} (t : Stays W0 Oc e) : Stays W0 Oc ((n, .a (capK lb Oc W0)) :: e) := fun m s' hl => by
  rcases look_cons hl with ⟨rfl, rfl⟩ | ⟨_, hl⟩
  · exact .inr ⟨lb, rfl⟩
  · exact t m s' hl

theorem yieldOf {a : Act} {w : World} {l : Nat} {g : Operand} {as_ : Array Operand} {ts : Array TypeId} {vs : List Value} (ho : o.op = .call { callee := .value g, args := as_, argTypes := ts }) (hg : a.eval g = .func (.yield l) #[] #[]) (ha : as_.toList.map a.eval = vs) :
    (execOp a.eval o).run P w = (Instr.yield l vs.toArray).run P w := by
  have : as_.map a.eval = vs.toArray := by rw [← ha]; apply Array.ext'; simp
  simp [execOp, ho, resolve, hg, Deferred.ofValue, invoke, this]

/-- The call of yield: behind it a new world begins, of which the round's word is known. -/
theorem TrL.yield {n l d : Nat} {g : Operand} {as_ : Array Operand} {ts : Array TypeId} {vs : List Value} {W0 : World} {Oc : Nat → Nat} {R : Bool → World → Prop}
    (ho : o.op = .call { callee := .value g, args := as_, argTypes := ts }) (hgd : o.guard = none) (hd : o.dst = some d) (hdN : d < N) (hg : opS e g = some (.d (.v (.func (.yield l) #[] #[])))) (ha : opsS e as_.toList = some (vs.map fun v => .d (.v v)))
    (hY : ∀ w, Below w0.heap.size w0 w → YieldAt Fence.wide (n - 1) P l vs.toArray w fun en w' => ∃ b, en = .returned (.bool b) ∧ R b w' ∧ (b = true → Below W0.heap.size w w'))
    (hs : Stays W0 Oc e) (hT : ∀ w', R true w' → TrL n P N w' (belowO W0.heap.size Oc) ops Q ((d, .d (.v (.bool true))) :: e) [] rest) (hF : ∀ w', R false w' → TrL n P N w' (belowO W0.heap.size Oc) ops Q [(d, .d (.v (.bool false)))] [] rest) :
    TrL n P N w0 O0 ops Q e M (o :: rest) := by
  intro O H a w hst
  refine wpListIn_plain hgd fun K hK => ?_
  obtain ⟨fn, tmps, assign, body, hrun, hR⟩ := hY w hst.bl
  have hg' : a.eval g = .func (.yield l) #[] #[] := by
    have := hst.slotsAt #[g] g (by simp) _ hg
    generalize a.eval g = v at this
    cases this with
    | d _ _ q => cases q with
      | v _ => rfl
  have ha' : as_.toList.map a.eval = vs := by
    obtain ⟨a1, a2⟩ := opsS_rep (O := O) (H := H) (w := w) (a := a) as_.toList _ ha (fun x hx s hs' => hst.slotsAt as_ x (by simpa using hx) s hs')
    refine List.ext_getElem (by simpa using a1) fun i h1 h2 => ?_
    have := a2 i _ _ (List.getElem?_eq_getElem h1) (by rw [List.getElem?_map, List.getElem?_eq_getElem h2]; rfl)
    generalize (as_.toList.map a.eval)[i] = v at this
    cases this with
    | d _ _ q => cases q with
      | v _ => rfl
  refine ⟨fun f _ => trivial, ?_⟩
  have hsm : o.semAt Fence.wide.round a.eval = execOp a.eval o := rfl
  rw [hsm, yieldOf ho hg' ha', hrun, Oper.uponIn_round]
  refine ⟨fun h => by simp [Fence.wide] at h, hR.mono ?_⟩
  rintro en w' ⟨b, rfl, hRb, hbl⟩
  have hnew : ∀ e', (∀ n s, look e' n = some s → S.flat 9 s = true ∨ (b = true ∧ ∃ lb, s = .a (capK lb Oc W0))) → (∀ n s, look e' n = some s → look e n = some s) → St N w' (belowO W0.heap.size Oc) ((d, .d (.v (.bool b))) :: e') [] (belowO W0.heap.size Oc) zH (a.put (some d) (.bool b)) w' := fun e' he' hsub => by
    refine ⟨hst.df, by simp [Act.put, hst.sz], .refl _ _, fun _ _ => rfl, ?_, fun h m hm => by cases hm⟩
    refine put_slots hst.sz hdN (.d _ _ (.v _)) fun n s hl => ?_
    obtain ⟨y, hy, hr⟩ := hst.slots n s (hsub n s hl)
    refine ⟨y, hy, ?_⟩
    rcases he' n s hl with hf | ⟨hb, lb, rfl⟩
    · exact hr.flat 9 hf
    · cases hr with
      | a x K hq => exact .a _ _ (capK_next hq (hbl hb))
  refine hK _ _ ?_
  rw [hd]
  cases b with
  | true => exact hT w' hRb _ _ _ _ (hnew e (fun n s hl => (hs n s hl).imp id fun h => ⟨rfl, h⟩) fun _ _ h => h)
  | false => exact hF w' hRb _ _ _ _ (hnew [] (fun n s hl => by cases hl) fun _ _ h => by cases h)

/-- From here on this world is the beginning: data without memory and what is captured remain. -/
inductive Reb (W0 : World) (Oc : Nat → Nat) (e : Env) : Env → Prop
  | nil : Reb W0 Oc e []
  | flat {n : Nat} {s s' : S} {e' : Env} (h : look e n = some s) (hl : Le s s') (hf : S.flat 9 s' = true) (t : Reb W0 Oc e e') : Reb W0 Oc e ((n, s') :: e')
  | cap {n : Nat} {lb : Value} {e' : Env} (h : look e n = some (.a (capK lb Oc W0))) (t : Reb W0 Oc e e') : Reb W0 Oc e ((n, .a (capK lb Oc W0)) :: e')
theorem Reb.st {W0 : World} {Oc : Nat → Nat} {e' : Env} (hr : Reb W0 Oc e e') {O : Nat → Nat} {H : Nat → Value} {a : Act} {w : World} (hst : St N w0 O0 e M O H a w) : St N w (belowO W0.heap.size Oc) e' [] (belowO W0.heap.size Oc) zH a w := by
  induction hr with
  | nil => exact ⟨hst.df, hst.sz, .refl _ _, fun _ _ => rfl, fun n s h => (by cases h), fun n m h => (by cases h)⟩
  | flat h hl hf t ih =>
    refine ⟨ih.df, ih.sz, ih.bl, ih.lab, fun n s hs => ?_, ih.mem⟩
    rcases look_cons hs with ⟨rfl, rfl⟩ | ⟨_, hs⟩
    · obtain ⟨x, hx, hr⟩ := hst.slots _ _ h
      exact ⟨x, hx, (hl _ _ _ _ hr).flat 9 hf⟩
    · exact ih.slots n s hs
  | cap h t ih =>
    refine ⟨ih.df, ih.sz, ih.bl, ih.lab, fun n s hs => ?_, ih.mem⟩
    rcases look_cons hs with ⟨rfl, rfl⟩ | ⟨_, hs⟩
    · obtain ⟨x, hx, hr⟩ := hst.slots _ _ h
      cases hr with
      | a x K hq => exact ⟨x, hx, .a _ _ (capK_next hq (.refl _ _))⟩
    · exact ih.slots n s hs

end
end Go.Eng
end

section
/- Walks, written by gen.py out of hints. -/




set_option linter.unusedVariables false
set_option linter.unusedSimpArgs false
namespace Go.Proofs.Ythgcnfolgbaemaa
open Go.Eng
set_option maxRecDepth 10000
set_option maxHeartbeats 1000000



end Go.Proofs.Ythgcnfolgbaemaa
end

section
/- Walks, written by gen.py out of hints. -/



set_option linter.unusedVariables false
set_option linter.unusedSimpArgs false
namespace Go.Proofs.Ythgcnfolgbaemaa
open Go.Eng
set_option maxRecDepth 10000
set_option maxHeartbeats 1000000



end Go.Proofs.Ythgcnfolgbaemaa
end

section
/- Walks, written by gen.py out of hints. -/



set_option linter.unusedVariables false
set_option linter.unusedSimpArgs false
namespace Go.Proofs.Ythgcnfolgbaemaa
open Go.Eng
set_option maxRecDepth 10000
set_option maxHeartbeats 1000000

theorem law_line_does  : Does Try.prog false 24 [] (absS lineA) := by
  refine Does.of_body Try.func24 rfl rfl (by simp) Try.call24 (fun w0 O0 => ?_)
  refine Tr.seq ?_
  refine Tr.region ?_
  refine TrOps.semM (OpSem.alloc 0 rfl zc25 rfl) rfl rfl (by decide) ?_
  refine TrOps.nil ?_
  refine At.seq ?_
  refine Tr.seq ?_
  refine Tr.region ?_
  refine TrOps.sem (OpSem.build rfl rfl pl57 zc57 rfl rfl) rfl rfl (by decide) ?_
  refine TrOps.sem (OpSem.build rfl rfl pl57 zc57 rfl rfl) rfl rfl (by decide) ?_
  refine TrOps.sem (OpSem.build rfl rfl pl57 zc57 rfl rfl) rfl rfl (by decide) ?_
  refine TrOps.sem (OpSem.buildSlice rfl rfl es22 ze22 rfl rfl (by decide) (by decide) rfl rfl) rfl rfl (by decide) ?_
  refine TrOps.sem (OpSem.buildSlice rfl rfl es23 ze23 rfl rfl (by decide) (by decide) rfl rfl) rfl rfl (by decide) ?_
  refine TrOps.sem (OpSem.build rfl rfl pl25 zc25 rfl rfl) rfl rfl (by decide) ?_
  refine TrOps.storeb rfl rfl rfl rfl rfl rfl rfl vs25 (by first | decide | simp) ?_
  refine TrOps.nil ?_
  refine At.seq ?_
  refine Tr.ret ?_
  exact At.ret rfl (.cellN rfl rfl vs25 <| .nil) rfl (.refl _)

end Go.Proofs.Ythgcnfolgbaemaa
end

section
/- Atomic abstractions: they are valid, and their distances are those of the projection to their variable; sums of distances with parts of the costs. Atomic abstractions: what the reference computes; the laws' words. Sums of distances of atomic abstractions with parts of the costs: the law's words. -/

set_option linter.unusedVariables false
set_option linter.unusedSimpArgs false
set_option linter.unusedSectionVars false
namespace Go.Eng
open Go

/-! ### Abstractions with sorted arcs -/
theorem arcLt_trans {x y z : Arc} (h : arcLt x y) (k : arcLt y z) : arcLt x z := by unfold arcLt at *; omega
theorem setP_of {n : Int} {l : List Int} (hs : l.Pairwise (· < ·)) (hm : ∀ x, x ∈ l → 0 ≤ x ∧ x < n) : SetP n l := fun i hi => by
  have h1 := hm l[i] (List.getElem_mem hi)
  unfold SetOk
  rw [nth_eq hi]
  refine ⟨by omega, by omega, fun h0 => ?_⟩
  rw [List.pairwise_iff_getElem] at hs
  have e : (i : Int) - 1 = ((i - 1 : Nat) : Int) := by omega
  rw [e, nth_eq (by omega)]
  exact hs (i - 1) i (by omega) hi (by omega)
theorem setP_sorted {n : Int} {l : List Int} (h : SetP n l) : l.Pairwise (· < ·) := by
  have key : ∀ (d i : Nat), i + d + 1 < l.length → nth l i < nth l (i + d + 1 : Nat) := by
    intro d
    induction d with
    | zero =>
      intro i hi
      have := (h (i + 1) (by omega)).2.2 (by omega)
      have e : ((i + 1 : Nat) : Int) - 1 = (i : Int) := by omega
      rw [e] at this
      exact this
    | succ d ih =>
      intro i hi
      have h1 := ih i (by omega)
      have := (h (i + (d + 1) + 1) (by omega)).2.2 (by omega)
      have e : ((i + (d + 1) + 1 : Nat) : Int) - 1 = ((i + d + 1 : Nat) : Int) := by omega
      rw [e] at this
      exact Int.lt_trans h1 this
  rw [List.pairwise_iff_getElem]
  intro i j hi hj hij
  have := key (j - i - 1) i (by omega)
  have e : i + (j - i - 1) + 1 = j := by omega
  rw [e, nth_eq hi, nth_eq hj] at this
  exact this
theorem setP_mem {n : Int} {l : List Int} (h : SetP n l) {x : Int} (hx : x ∈ l) : 0 ≤ x ∧ x < n := by
  obtain ⟨i, hi, rfl⟩ := List.getElem_of_mem hx
  have := h i hi
  unfold SetOk at this
  rw [nth_eq hi] at this
  exact ⟨this.1, this.2.1⟩
theorem absOk_of {a : Abs} (h1 : headOk a) (h2 : a.goals.Pairwise (· < ·)) (h3 : ∀ x, x ∈ a.goals → 0 ≤ x ∧ x < a.states) (h4 : a.arcs.length ≤ 400) (h5 : a.arcs.Pairwise arcLt) (h6 : ∀ x, x ∈ a.arcs → arcIn a x) : AbsOk a := {
  head := h1
  goals := setP_of h2 h3
  len := h4
  arc := fun i hi => h6 _ (nth_mem (by omega) (by omega))
  ord := fun i h0 hi => by
    rw [List.pairwise_iff_getElem] at h5
    have e : (i : Int) - 1 = ((i - 1 : Nat) : Int) := by omega
    rw [e, nth_eq hi, nth_eq (by omega)]
    exact h5 (i - 1) i (by omega) hi (by omega) }

/-! ### The abstraction of one variable -/
section
variable {m : Multi} (hv : Valid m) {v : Int} (h0 : 0 ≤ v) (h1 : v < m.sizes.length)
include hv h0 h1
end
def costsL (m : Multi) : List Int := m.ops.map (·.cost)
section
variable {m : Multi} (hv : Valid m) {v : Int} (h0 : 0 ≤ v) (h1 : v < m.sizes.length)
include hv h0 h1
end

/-! ### Sums of distances -/
def sumV (D : Nat → List Int) (V : Nat → Int) (s : List Int) : Nat → Int
  | 0 => 0
  | k + 1 => sumV D V s k + nth (D k) (nth s (V k))
def sumP (p : Nat → List Int) (j : Nat) : Nat → Int
  | 0 => 0
  | k + 1 => sumP p j k + nth (p k) j
end Go.Eng

set_option linter.unusedVariables false
set_option linter.unusedSimpArgs false
set_option linter.unusedSectionVars false
namespace Go.Eng
open Go

def costsTo (m : Multi) (k : Nat) : List Int := (List.range k).map fun (i : Nat) => (nth m.ops i).cost
theorem abs_ext {a b : Abs} (h1 : a.states = b.states) (h2 : a.labels = b.labels) (h3 : a.arcs = b.arcs) (h4 : a.init = b.init) (h5 : a.goals = b.goals) : a = b := by
  cases a; cases b; simp only at h1 h2 h3 h4 h5; subst h1 h2 h3 h4 h5; rfl
theorem arc_ext {x y : Arc} (h1 : x.fr = y.fr) (h2 : x.lab = y.lab) (h3 : x.to = y.to) : x = y := by
  cases x; cases y; simp only at h1 h2 h3; subst h1 h2 h3; rfl
/-- The arc that the reference finds among the first i targets. -/
def arcsY (m : Multi) (v x : Int) (j : Nat) (i : Nat) : List Arc := if findA (nth m.ops j).pre v x = x ∧ findA (nth m.ops j).post v x < i then [⟨x, j, findA (nth m.ops j).post v x⟩] else []
section
variable {m : Multi} (hv : Valid m) {v : Int} (h0 : 0 ≤ v) (h1 : v < m.sizes.length)
include hv h0 h1
end
end Go.Eng

set_option linter.unusedVariables false
set_option linter.unusedSimpArgs false
set_option linter.unusedSectionVars false
namespace Go.Eng
open Go

def vAt (m : Multi) (f : Int) (i : Nat) : Int := (f % m.sizes.length + i) % m.sizes.length
def atomsTo (m : Multi) (f : Int) (k : Nat) : List Abs := (List.range k).map fun (i : Nat) => atomA m (vAt m f i)
def nAt (m : Multi) : Nat := min m.sizes.length 6
def atomsL (m : Multi) (f : Int) : List Abs := atomsTo m f (nAt m)
section
variable {m : Multi} (hv : Valid m) {f : Int} (hf : 0 ≤ f)
include hv hf
end
/-- The distance of the initial state in each abstraction, with the costs that are left and with equal parts. -/
noncomputable def dSat (m : Multi) (f : Int) (i : Nat) : List Int := distL (atomA m (vAt m f i)) (lefTo (atomsL m f) (costsL m) i)
noncomputable def dUni (m : Multi) (f : Int) (i : Nat) : List Int := distL (atomA m (vAt m f i)) (rowTo (costsL m) (nAt m) i (costsL m).length)
noncomputable def aTo (m : Multi) (f : Int) (k : Nat) : Int := min 1000000000 (sumV (dSat m f) (vAt m f) m.init k)
noncomputable def bTo (m : Multi) (f : Int) (k : Nat) : Int := min 1000000000 (sumV (dUni m f) (vAt m f) m.init k)
section
variable {m : Multi} (hv : Valid m) {f : Int} (hf : 0 ≤ f)
include hv hf
end
end Go.Eng
end

section
/- Lists without adjacent duplicates; sorted lists of arcs. -/

set_option linter.unusedVariables false
set_option linter.unusedSimpArgs false
set_option linter.unusedSectionVars false
namespace Go.Eng
open Go

section
variable {α : Type} [DecidableEq α] [Inhabited α]
/-- The first k elements, but for those that are equal to the one before. -/
def ddTo (l : List α) : Nat → List α
  | 0 => []
  | k + 1 => if 0 < k ∧ nth l k = nth l (k - 1 : Int) then ddTo l k else ddTo l k ++ [nth l k]
def dd (l : List α) : List α := ddTo l l.length
/-- What lies in memory when j elements behind k0 have been looked at. -/
def dmTo (l : List α) (k0 : Nat) : Nat → List α
  | 0 => l
  | j + 1 => if nth l (k0 + j + 1 : Nat) = nth l (k0 + j : Nat) then dmTo l k0 j else (dmTo l k0 j).set (ddTo l (k0 + j + 1)).length (nth l (k0 + j + 1 : Nat))
theorem ddTo_len {l : List α} : ∀ {k : Nat}, (ddTo l k).length ≤ k
  | 0 => by simp [ddTo]
  | k + 1 => by
    have := ddTo_len (l := l) (k := k)
    simp only [ddTo]; split
    · omega
    · simp; omega
theorem ddTo_take {l : List α} : ∀ {k : Nat}, k ≤ l.length → (∀ i : Nat, 0 < i → i < k → nth l i ≠ nth l (i - 1 : Int)) → ddTo l k = l.take k
  | 0, _, _ => by simp [ddTo]
  | k + 1, hk, h => by
    simp only [ddTo]
    rw [if_neg (fun hh => h k hh.1 (by omega) hh.2), ddTo_take (by omega) fun i h0 hi => h i h0 (by omega), nth_eq (by omega), List.take_add_one, List.getElem?_eq_getElem (by omega)]
    rfl
theorem dd_all {l : List α} (h : ∀ i : Nat, 0 < i → i < l.length → nth l i ≠ nth l (i - 1 : Int)) : dd l = l := by
  unfold dd; rw [ddTo_take (Nat.le_refl _) h, List.take_length]
theorem dd_one {l : List α} (h : l.length < 2) : dd l = l := dd_all fun i h0 hi => by omega
theorem dd_ne {l : List α} (h : l ≠ []) : dd l ≠ [] := by
  have key : ∀ k, 0 < k → ddTo l k ≠ [] := by
    intro k hk
    induction k with
    | zero => omega
    | succ k ih =>
      simp only [ddTo]
      split
      · rename_i hh; exact ih hh.1
      · simp
  have : 0 < l.length := List.length_pos_iff.2 h
  exact key _ this
theorem dmTo_len {l : List α} {k0 : Nat} : ∀ {j : Nat}, (dmTo l k0 j).length = l.length
  | 0 => rfl
  | j + 1 => by simp only [dmTo]; split; exact dmTo_len; rw [List.length_set]; exact dmTo_len
section
variable {l : List α} {k0 : Nat} (h0 : 0 < k0) (hd : nth l k0 = nth l (k0 - 1 : Int))
include h0 hd
theorem dk_len : ∀ {j : Nat}, (ddTo l (k0 + j + 1)).length ≤ k0 + j
  | 0 => by
    have := ddTo_len (l := l) (k := k0)
    simp only [Nat.add_zero, ddTo]
    rw [if_pos ⟨h0, hd⟩]; exact this
  | j + 1 => by
    have := dk_len (j := j)
    have e : k0 + (j + 1) + 1 = (k0 + j + 1) + 1 := by omega
    have e2 : ddTo l ((k0 + j + 1) + 1) = if 0 < k0 + j + 1 ∧ nth l (k0 + j + 1 : Nat) = nth l ((k0 + j + 1 : Nat) - 1 : Int) then ddTo l (k0 + j + 1) else ddTo l (k0 + j + 1) ++ [nth l (k0 + j + 1 : Nat)] := rfl
    rw [e, e2]; split
    · omega
    · simp; omega
theorem dmTo_at {i : Nat} : ∀ {j : Nat}, k0 + j ≤ i → nth (dmTo l k0 j) i = nth l i
  | 0, _ => rfl
  | j + 1, hi => by
    have ih := dmTo_at (i := i) (j := j) (by omega)
    have hl := dk_len h0 hd (j := j)
    simp only [dmTo]; split
    · exact ih
    · have e : nth ((dmTo l k0 j).set (ddTo l (k0 + j + 1)).length (nth l (k0 + j + 1 : Nat))) i = nth (dmTo l k0 j) i := by
        unfold nth
        simp only [Int.toNat_natCast, List.getD_eq_getElem?_getD]
        rw [List.getElem?_set_ne (by omega)]
      rw [e]; exact ih
theorem ddTo_step {j : Nat} : ddTo l (k0 + (j + 1) + 1) = if nth l (k0 + j + 1 : Nat) = nth l (k0 + j : Nat) then ddTo l (k0 + j + 1) else ddTo l (k0 + j + 1) ++ [nth l (k0 + j + 1 : Nat)] := by
  have e : k0 + (j + 1) + 1 = (k0 + j + 1) + 1 := by omega
  have e2 : ((k0 + j + 1 : Nat) : Int) - 1 = ((k0 + j : Nat) : Int) := by omega
  have e3 : ddTo l ((k0 + j + 1) + 1) = if 0 < k0 + j + 1 ∧ nth l (k0 + j + 1 : Nat) = nth l ((k0 + j + 1 : Nat) - 1 : Int) then ddTo l (k0 + j + 1) else ddTo l (k0 + j + 1) ++ [nth l (k0 + j + 1 : Nat)] := rfl
  rw [e, e3, e2]
  by_cases h : nth l (k0 + j + 1 : Nat) = nth l (k0 + j : Nat)
  · rw [if_pos ⟨by omega, h⟩, if_pos h]
  · rw [if_neg (fun hh => h hh.2), if_neg h]
theorem dmTo_take (hk : k0 < l.length) (hu : ∀ i : Nat, 0 < i → i < k0 → nth l i ≠ nth l (i - 1 : Int)) : ∀ {j : Nat}, k0 + j < l.length → (dmTo l k0 j).take (ddTo l (k0 + j + 1)).length = ddTo l (k0 + j + 1)
  | 0, _ => by
    have e : ddTo l (k0 + 0 + 1) = l.take k0 := by
      simp only [Nat.add_zero, ddTo]
      rw [if_pos ⟨h0, hd⟩, ddTo_take (by omega) hu]
    rw [e]
    simp only [dmTo, List.length_take]
    rw [Nat.min_eq_left (by omega)]
  | j + 1, hj => by
    have ih := dmTo_take hk hu (j := j) (by omega)
    have hl := dk_len h0 hd (j := j)
    have hm := dmTo_len (l := l) (k0 := k0) (j := j)
    rw [ddTo_step h0 hd]
    simp only [dmTo]
    split
    · exact ih
    · rw [List.length_append, List.length_singleton, List.take_add_one, List.take_set_of_le (Nat.le_refl _), ih, List.getElem?_set_self (by omega)]
      rfl
end
end
end Go.Eng
end

section
/- slices.SortFunc on a slice of the caller's own: from the kit's contract to ours. -/



set_option linter.unusedSimpArgs false
set_option linter.unnecessarySimpa false
set_option linter.unusedVariables false
namespace Go.Eng
open Go.Shelf Go.Lib Go.Proofs
open Go.Sort (SWO ahead grow putCells putRow mapBlock onCells HoldsK flatK putRowK size_flatK get_flatK)

def sortBy {α : Type} (cf : α → α → Int) (l : List α) : List α := l.mergeSort fun x y => !(ltOf cf) y x
theorem sortBy_len {α : Type} {cf : α → α → Int} {l : List α} : (sortBy cf l).length = l.length := by simp [sortBy]

theorem holdsK_of {α : Type} [Inhabited α] {enc : α → List Value} {k T b : Nat} {w : World} {xs : Array Value} {l : List α} (hk : ∀ x, (enc x).length = k) (hb : w.heap[b]? = some (.cells xs T (0, 0))) (hc : ∀ (i : Nat) (x : α) (j : Nat) (v : Value), l[i]? = some x → (enc x)[j]? = some v → xs[i * k + j]? = some v) : HoldsK enc k w b 0 l.toArray := by
  intro t ht
  rw [size_flatK] at ht
  have ht' : t < l.length * k := by simpa using ht
  have hk0 : 0 < k := by
    rcases Nat.eq_zero_or_pos k with h | h
    · subst h; simp at ht'
    · exact h
  have hi : t / k < l.length := (Nat.div_lt_iff_lt_mul hk0).2 ht'
  have hj : t % k < k := Nat.mod_lt _ hk0
  have he : l.toArray[t / k]! = l[t / k] := by simp [hi]
  have hlen := hk l[t / k]
  have hx := hc (t / k) l[t / k] (t % k) (enc l[t / k])[t % k] (List.getElem?_eq_getElem hi) (List.getElem?_eq_getElem (by omega))
  have hdm : t / k * k + t % k = t := by rw [Nat.mul_comm]; exact Nat.div_add_mod t k
  rw [hdm] at hx
  constructor
  · rw [get_flatK enc k _ t ht, he]
    unfold World.cell?
    simp only [hb, Nat.zero_add]
    rw [getElem!_pos _ (t % k) (by omega)]
    simpa using hx
  · unfold World.frozen?
    simp [hb]

theorem sortWorldK_at {α : Type} [Inhabited α] {enc : α → List Value} {k b n : Nat} {w : World} {d : Array α} {os : Array Obj} {b' : Nat} (hb' : b' < w.heap.size) : (sortWorldK enc k w b 0 n d os).heap[b']? = if b = b' then (w.heap[b']?).map (onCells (putCells id 0 (flatK enc k d))) else w.heap[b']? := by
  unfold sortWorldK grow putRowK putRow mapBlock
  show ((w.heap.modify b _) ++ os)[b']? = _
  rw [Array.getElem?_append_left (by simpa using hb'), Array.getElem?_modify]

theorem sortFunc_W {P : Program} {ρ : Ren} {α : Type} [Inhabited α] (L : SlLaysF0.n6 P ρ) (k T : Nat) (aE : ∀ w, (isAgg (ρ.t 24)).run P w = .ok true w) (zE : ∀ w, (Go.sizeOf (ρ.t 24)).run P w = .ok k w) (enc : α → List Value) (hk : ∀ x, (enc x).length = k) (h1 : ∀ x, ∀ v ∈ enc x, v.oneCell' = true) (cf : α → α → Int) (hO : SWO (ltOf cf)) (hT : ∀ x y, (ltOf cf) x y = false → (ltOf cf) y x = false → x = y) (g : Nat)
    (eg : ∀ args w, (callFunc g args).run P w = .ok (.enter g args) w) (hcmp : ∀ blk off size w, CmpLays P g #[] enc k cf blk off size w) (can : ∀ xs w, (callFunc (ρ.f 6) xs).run P w = .ok (.enter (ρ.f 6) xs) w) (l : List α) (hl : l.length < 4611686018427387904) :
    DoesWS P (ρ.f 6) (fun v => [v, .func (.func g) #[] #[]]) (.tuple #[]) k T (l.map fun x => (enc x).map .v) ((sortBy cf l).map fun x => (enc x).map .v) := by
  refine ⟨can, fun w v hv => ?_⟩
  rcases hv with ⟨rfl, hr⟩ | ⟨b, cap, xs, rfl, _, hb, hlc, hcm, hsz, hw, hc⟩
  · have hl0 : l = [] := by simpa using hr
    subst hl0
    refine (AnyF.slices_SortFunc_none L none 0 _ w).mono ?_
    rintro e w' ⟨rfl, rfl⟩
    exact ⟨rfl, ⟨rfl, rfl, rfl, Nat.le_refl _, fun _ _ _ => rfl⟩, .inl ⟨rfl, by simp [sortBy]⟩⟩
  · have hcv : ∀ (i : Nat) (x : α) (j : Nat) (v : Value), l[i]? = some x → (enc x)[j]? = some v → xs[i * k + j]? = some v := fun i x j v hi hj => by
      obtain ⟨y, hy, he, _⟩ := hc i ((enc x).map .v) j (.v v) (by simp [hi]) (by simp [hj])
      cases he; exact hy
    have hbs := (Array.getElem?_eq_some_iff.1 hb).1
    have hcon := AnyQ.slices_SortFunc_total L k aE zE enc hk h1 cf hO g #[] b 0 cap l.toArray w eg (hcmp _ _ _ _) (holdsK_of hk hb hcv) hbs (by simpa using hl) hT
    have e1 : l.toArray.size = (l.map fun x => (enc x).map D.v).length := by simp
    rw [e1] at hcon
    refine hcon.mono ?_
    rintro e w' ⟨rfl, n, os, rfl⟩
    have hbk : ∀ b', b' < w.heap.size → b ≠ b' → (sortWorldK enc k w b 0 n (sortBy cf l).toArray os).heap[b']? = w.heap[b']? := fun b' h h' => by rw [sortWorldK_at h, if_neg h']
    have hlc' : l.length ≤ cap := by simpa using hlc
    refine ⟨rfl, ⟨rfl, rfl, rfl, ?_, fun b' hb' hne => hbk b' hb' fun e => hne (by rw [e]; rfl)⟩, .inr ⟨b, cap, putCells id 0 (flatK enc k (sortBy cf l).toArray) xs, by simp [sortBy_len], Nat.zero_le _, ?_, by simpa [sortBy_len] using hlc', hcm, ?_, ?_, ?_⟩⟩
    · show w.heap.size ≤ (sortWorldK enc k w b 0 n (sortBy cf l).toArray os).heap.size
      unfold sortWorldK grow putRowK putRow mapBlock
      simp [ahead]
    · rw [show (sortWorldK enc k w b 0 n (l.toArray.toList.mergeSort fun x y => !(ltOf cf) y x).toArray os).heap[b]? = _ from sortWorldK_at hbs, if_pos rfl, hb]
      rfl
    · simp [putCells, hsz]
    · intro r hr
      obtain ⟨x, _, rfl⟩ := List.mem_map.1 hr
      simp [hk]
    · intro i r j d hi hj
      rw [List.getElem?_map, Option.map_eq_some_iff] at hi
      obtain ⟨x, hx, rfl⟩ := hi
      rw [List.getElem?_map, Option.map_eq_some_iff] at hj
      obtain ⟨v, hv, rfl⟩ := hj
      refine ⟨v, ?_, rfl, h1 x v (List.mem_of_getElem? hv)⟩
      have hil : i < l.length := by have := (List.getElem?_eq_some_iff.1 hx).1; rwa [sortBy_len] at this
      have hjk : j < k := by have := (List.getElem?_eq_some_iff.1 hv).1; rwa [hk] at this
      have hlt : i * k + j < l.length * k := by
        have := Nat.mul_le_mul_right k (show i + 1 ≤ l.length from hil); rw [Nat.add_mul, Nat.one_mul] at this; omega
      have hxs : i * k + j < xs.size := by rw [hsz]; exact Nat.lt_of_lt_of_le hlt (Nat.mul_le_mul_right k hlc')
      have d1 : (i * k + j) / k = i := by
        rw [Nat.mul_comm, Nat.mul_add_div (by omega), Nat.div_eq_of_lt hjk, Nat.add_zero]
      have d2 : (i * k + j) % k = j := by rw [Nat.mul_comm, Nat.mul_add_mod, Nat.mod_eq_of_lt hjk]
      have hsl : (i * k + j) < (sortBy cf l).toArray.size * k := by simpa [sortBy_len] using hlt
      unfold putCells
      rw [Array.getElem?_mapIdx, Array.getElem?_eq_getElem hxs, Option.map_some, if_pos ⟨Nat.zero_le _, by rw [size_flatK]; simpa [sortBy_len] using hlt⟩, Nat.sub_zero, get_flatK _ _ _ _ hsl, d1, d2]
      have hx2 : (sortBy cf l).toArray[i]! = x := by simp [hx]
      have hj2 : (enc x)[j]! = v := by simp [hv]
      rw [hx2, hj2]; rfl

theorem ltArc (x y : Arc) : ltOf cmpArc x y = decide (arcLt x y) := by
  unfold ltOf
  exact decide_eq_decide.2 cmpArc_lt
theorem ltArc_swo : SWO (ltOf cmpArc) := {
  irrefl x := by rw [ltArc]; simp [arcLt]
  trans x y z h1 h2 := by rw [ltArc] at *; simp only [decide_eq_true_eq] at *; unfold arcLt at *; omega
  ntrans x y z h1 h2 := by rw [ltArc] at *; simp only [decide_eq_false_iff_not] at *; unfold arcLt at *; omega }
theorem ltArc_tot (x y : Arc) (h1 : ltOf cmpArc x y = false) (h2 : ltOf cmpArc y x = false) : x = y := by
  rw [ltArc] at *
  simp only [decide_eq_false_iff_not] at *
  obtain ⟨a, b, c⟩ := x
  obtain ⟨a', b', c'⟩ := y
  unfold arcLt at *
  simp only at *
  have : a = a' ∧ b = b' ∧ c = c' := by omega
  obtain ⟨rfl, rfl, rfl⟩ := this
  rfl
/-- The arcs in order, with duplicates. -/
def sortL (l : List Arc) : List Arc := sortBy cmpArc l
theorem sortL_len (l : List Arc) : (sortL l).length = l.length := sortBy_len
theorem sortL_mem {l : List Arc} {x : Arc} : x ∈ sortL l ↔ x ∈ l := by unfold sortL sortBy; exact List.mem_mergeSort
/-- No later one comes before an earlier one. -/
theorem sortL_pw (l : List Arc) : (sortL l).Pairwise fun x y => ¬ arcLt y x := by
  have h := List.pairwise_mergeSort (le := fun x y : Arc => !(ltOf cmpArc) y x) (fun x y z h1 h2 => by
    simp only [Bool.not_eq_true'] at *
    exact ltArc_swo.ntrans z y x h2 h1) (fun x y => by
    rw [ltArc, ltArc]
    simp only [Bool.or_eq_true, Bool.not_eq_true', decide_eq_false_iff_not]
    unfold arcLt; omega) l
  refine List.Pairwise.imp ?_ h
  intro x y hxy
  rw [ltArc] at hxy
  simpa only [Bool.not_eq_true', decide_eq_false_iff_not] using hxy

theorem arc_ext3 {x y : Arc} (h : x.fr = y.fr ∧ x.lab = y.lab ∧ x.to = y.to) : x = y := arc_ext h.1 h.2.1 h.2.2
theorem arcs_at {l : List Arc} {i : Int} (h0 : 0 ≤ i) (h1 : i < l.length) : (l.map arcC)[i.toNat]? = some (arcC (nth l i)) := by
  have h : i.toNat < l.length := by omega
  rw [List.getElem?_map, List.getElem?_eq_getElem h]
  unfold nth
  simp [List.getD_eq_getElem?_getD, List.getElem?_eq_getElem h]
theorem arcs_dm {L : List Arc} {i y : Nat} {v : Arc} (ha : nth L i = v) (hi : i < L.length) (hy : y = i) : (L.map arcC)[y]? = some (arcC v) := by
  subst hy; subst ha
  have := arcs_at (l := L) (i := (y : Int)) (by omega) (by omega)
  simpa using this
theorem map_set3 {L : List Arc} {n : Nat} {x : Arc} (h : n < L.length) : (L.set n x).map arcC = (L.map arcC).take (n : Int).toNat ++ [arcC x] ++ (L.map arcC).drop ((n : Int).toNat + 1) := by
  rw [List.set_eq_take_append_cons_drop, if_pos h]
  simp
theorem dmTo_s {l : List Arc} {k j : Nat} (h : nth l (k + j + 1 : Nat) ≠ nth l (k + j : Nat)) : dmTo l k (j + 1) = (dmTo l k j).set (ddTo l (k + j + 1)).length (nth l (k + j + 1 : Nat)) := by
  simp only [dmTo]; rw [if_neg h]
theorem dmTo_e {l : List Arc} {k j : Nat} (h : nth l (k + j + 1 : Nat) = nth l (k + j : Nat)) : dmTo l k (j + 1) = dmTo l k j := by
  simp only [dmTo]; rw [if_pos h]
theorem cut_dd {l : List Arc} {k j : Nat} (h0 : 0 < k) (hd : nth l k = nth l (k - 1 : Int)) (hk : k < l.length) (hu : ∀ i : Nat, 0 < i → i < k → nth l i ≠ nth l (i - 1 : Int)) (hj : k + j + 1 = l.length) {R S : List (List D)} :
    (((dmTo l k j).map arcC).take ((ddTo l (k + j + 1)).length : Int).toNat ++ R ++ S).take ((ddTo l (k + j + 1)).length : Int).toNat = (dd l).map arcC := by
  have h1 := dk_len h0 hd (j := j)
  have h2 := dmTo_len (l := l) (k0 := k) (j := j)
  have h3 := dmTo_take h0 hd hk hu (j := j) (by omega)
  rw [Int.toNat_natCast, List.append_assoc, List.take_append_of_le_length (by simp; omega), List.take_take, Nat.min_self, ← List.map_take, h3, hj]
  rfl
theorem plain_arcs (l : List Arc) : plainB (l.map arcC) = true := by simp [plainB, arcC]
theorem repAbsV {O : Nat → Nat} {H : Nat → Value} {w : World} {st lab ini : Int} {gv : Value} (h1 : (H 0).oneCell' = true) (hg : gv.oneCell' = true) : RepS O H w (.agg #[.int .i64 st, .int .i64 lab, H 0, .int .i64 ini, gv]) (.g [I st, I lab, .o 0, I ini, .d (.v gv)]) := by
  refine .g [.int .i64 st, .int .i64 lab, H 0, .int .i64 ini, gv] _ rfl (fun x hx => ?_) (fun i x s hx hs => ?_)
  · simp only [List.mem_cons, List.not_mem_nil, or_false] at hx
    rcases hx with rfl | rfl | rfl | rfl | rfl <;> first | rfl | assumption
  · rcases i with _ | _ | _ | _ | _ | i <;> simp at hx hs <;> subst hx <;> subst hs
    · exact .d _ _ (.v _)
    · exact .d _ _ (.v _)
    · exact .o 0 h1
    · exact .d _ _ (.v _)
    · exact .d _ _ (.v _)

section
variable {P : Program} {N : Nat} {w0 : World} {O0 : Nat → Nat} {ops : Array Oper} {Q : Post} {e : Env} {M : Mem} {rest : List Oper} {o : Oper}

theorem repAbs_inv {O : Nat → Nat} {H : Nat → Value} {w : World} {st lab ini : Int} {h kg : Nat} {rg : List (List D)} {x : Value} (hr : RepS O H w x (.g [I st, I lab, .o h, I ini, .d (.s kg rg)])) :
    ∃ q n c, x = .agg #[.int .i64 st, .int .i64 lab, H h, .int .i64 ini, .slice q n c] ∧ RepD O w (.slice q n c) (.s kg rg) := by
  cases hr with
  | g xs ss hl h1 hg =>
    obtain ⟨x0, x1, x2, x3, x4, rfl⟩ : ∃ x0 x1 x2 x3 x4, xs = [x0, x1, x2, x3, x4] := by
      match xs, hl with
      | [x0, x1, x2, x3, x4], _ => exact ⟨x0, x1, x2, x3, x4, rfl⟩
    have v : ∀ {x : Value} {y : Value}, RepS O H w x (.d (.v y)) → x = y := fun hh => by cases hh with | d _ _ hd => cases hd with | v _ => rfl
    have e0 := v (hg 0 x0 _ rfl rfl)
    have e1 := v (hg 1 x1 _ rfl rfl)
    have e3 := v (hg 3 x3 _ rfl rfl)
    have e2 : x2 = H h := by
      have hh := hg 2 x2 _ rfl rfl
      cases hh with | o _ _ => rfl
    have h4 := hg 4 x4 _ rfl rfl
    subst e0 e1 e2 e3
    cases h4 with
    | d _ _ hd =>
      cases hd with
      | e a c k hm => exact ⟨a, 0, c, rfl, .e a c _ hm⟩
      | s b off c k rows y hc hm hw hO hy hr => exact ⟨_, _, c, rfl, .s b off c _ _ y hc hm hw hO hy hr⟩

/-- A call that takes an abstraction whose arcs are the caller's own and whose goals are data, and hands it back with other arcs. -/
theorem TrOps.callAbs {h d fn k T kg : Nat} {g x : Operand} {ts : Array TypeId} {rows rows' rg : List (List D)} {st lab ini : Int} (hspec : ∀ q n c, DoesW P fn (fun v => [.agg #[.int .i64 st, .int .i64 lab, v, .int .i64 ini, .slice q n c]]) (fun v => .agg #[.int .i64 st, .int .i64 lab, v, .int .i64 ini, .slice q n c]) k T rows rows')
    (ho : o.op = .call { callee := .value g, args := #[x], argTypes := ts }) (hgd : o.guard = none) (hd : o.dst = some d) (hdN : d < N) (hg : opS e g = some (.f fn [] [])) (hx : opS e x = some (.g [I st, I lab, .o h, I ini, .d (.s kg rg)])) (hM : look M h = some (.own k T rows)) (hp : plainB rows = true)
    (hn : TrOps P N w0 O0 ops Q ((d, .g [I st, I lab, .o h, I ini, .d (.s kg rg)]) :: kill h e) ((h, .own k T rows') :: killM h M) rest) : TrOps P N w0 O0 ops Q e M (o :: rest) := by
  intro O H a w hst
  have hm := hst.mem h _ hM
  refine wpList_plain hgd fun K hK => Oper.wp_false ?_ Q
  have hg' : a.eval g = .func (.func fn) #[] #[] := valS_rep 9 (hst.slotsAt #[g] g (by simp) _ hg) rfl
  obtain ⟨q, n, c, hxe, hgl⟩ := repAbs_inv (hst.slotsAt #[x] x (by simp) _ hx)
  have hsp := hspec q n c
  have hargs : (#[x] : Array Operand).toList.map a.eval = [.agg #[.int .i64 st, .int .i64 lab, H h, .int .i64 ini, .slice q n c]] := by simp [hxe]
  unfold Oper.wp
  rw [run_callW hsp.can ho hg' hargs]
  refine (hsp.run w (H h) ((hm.ownVal hp).weak (Nat.zero_le _))).mono ?_
  rintro en w' ⟨v', rfl, ht, hv', hnb⟩
  obtain ⟨O', H', h1, h2, hk, hb, hmm⟩ := callW_core hm hst.size ht hv' hnb
  have hgl' : RepD O' w' (.slice q n c) (.s kg rg) := hgl.mono hk.keeps
  have hrx : RepS O' H' w' (.agg #[.int .i64 st, .int .i64 lab, v', .int .i64 ini, .slice q n c]) (.g [I st, I lab, .o h, I ini, .d (.s kg rg)]) := by
    refine .g [.int .i64 st, .int .i64 lab, v', .int .i64 ini, .slice q n c] _ rfl (fun y hy => ?_) (fun i y s hy hs => ?_)
    · simp only [List.mem_cons, List.not_mem_nil, or_false] at hy
      rcases hy with rfl | rfl | rfl | rfl | rfl <;> first | rfl | assumption
    · rcases i with _ | _ | _ | _ | _ | i <;> simp at hy hs <;> subst hy <;> subst hs
      · exact .d _ _ (.v _)
      · exact .d _ _ (.v _)
      · rw [← h1]; exact .o h (by rw [h1]; exact h2)
      · exact .d _ _ (.v _)
      · exact .d _ _ hgl'
  have hsz := hst.size
  refine hK _ _ (hn O' H' _ _ ⟨?_, ?_, hst.bl.trans (hb.mono (Nat.le_refl _)), fun b hb' => (hk.lab b (by omega)).trans (hst.lab b hb'), ?_, fun h' m hm' => ?_⟩)
  · rw [hd]; exact hst.df
  · rw [hd]; simp [Act.put, hst.sz]
  · rw [hd]
    refine put_slots hst.sz hdN hrx fun n s hs => ?_
    obtain ⟨s', hs', hor⟩ := look_kill hs
    obtain ⟨y, hy, hr⟩ := hst.slots n s' hs'
    rcases hor with ⟨hok, rfl⟩ | rfl
    · exact ⟨y, hy, hr.mono hk 9 (fun h he => by cases he; exact hok) (.inr (by omega))⟩
    · exact ⟨y, hy, .u y⟩
  · rcases look_cons hm' with ⟨rfl, rfl⟩ | ⟨hne, hm'⟩
    · exact hmm
    · obtain ⟨m', hm2, hor⟩ := look_killM hm'
      rcases hor with rfl | ⟨hn', rfl⟩
      · trivial
      · exact ((hst.mem h' m' hm2).kill (h := h)).mono hk (by simp; omega) (by simp; omega) 9 (fun h1 he => by cases he; exact Mo.kill_ok _ m') (.inr (by omega))
end

/-- labels.Apply: the fault, the arcs with other labels, the abstraction. -/
def aplF (a : Abs) (to : List Int) : Int × Int := if absFault a ≠ (0, 0) then absFault a else if (to.length : Int) ≠ a.labels then (9, -4) else if ∃ x ∈ to, x < 0 ∨ a.labels ≤ x then (3, -4) else (0, 0)
def relTo (a : Abs) (to : List Int) (k : Nat) : List Arc := (a.arcs.take k).map fun x => ⟨x.fr, nth to x.lab, x.to⟩
def relA (a : Abs) (to : List Int) : Abs := ⟨a.states, a.labels, dd (sortL (relTo a to a.arcs.length)), a.init, a.goals⟩
def aplF1 (a : Abs) (to : List Int) : Int × Int := if absFault a ≠ (0, 0) then absFault a else if (to.length : Int) ≠ a.labels then (9, -4) else (0, 0)
end Go.Eng
end

section
/- Labels: the ends of arcs, equivalent labels, the smallest equivalent label; strictly sorted lists. -/

set_option linter.unusedVariables false
set_option linter.unusedSimpArgs false
set_option linter.unusedSectionVars false
namespace Go.Eng
open Go
open Go.RowKit (Below)
/-! ### A region with few orders: each of them -/
def ordersOf (ops : Array Oper) : Nat → Array Bool → List (List Nat)
  | 0, _ => [[]]
  | n + 1, L => match Region.ready .any ops L with
    | [] => [[]]
    | i :: rs => (i :: rs).flatMap fun j => (ordersOf ops n (L.setIfInBounds j true)).map fun l => j :: l
def pickAt : List Oper → Nat → List Oper → List Oper
  | [], _, r => r
  | o :: _, 0, r => o :: r
  | _ :: l, n + 1, r => pickAt l n r
def pickL (l : List Oper) : List Nat → List Oper
  | [] => []
  | i :: s => pickAt l i (pickL l s)
section
variable {P : Program} {N : Nat} {w0 : World} {O0 : Nat → Nat} {Q : Post} {e : Env} {M : Mem}
theorem St.drew {O : Nat → Nat} {H : Nat → Value} {a : Act} {w : World} (hst : St N w0 O0 e M O H a w) : St N w0 O0 e M O H a w.drew :=
  ⟨hst.df, hst.sz, hst.bl.drew, hst.lab, fun n s hs => (let ⟨x, hx, hr⟩ := hst.slots n s hs; ⟨x, hx, RepS.keeps (w := w) (w' := w.drew) (O := O) (fun b _ h => ⟨h, rfl⟩) hr⟩),
    fun h m hm => MHold.mono (w := w) (w' := w.drew) (hb := none) (hh := none) (O := O) (O' := O) (H := H) (H' := H) ⟨fun _ _ => rfl, fun _ _ _ => rfl, fun _ _ => rfl⟩ (hst.mem h m hm) (by simp) (by simp) 0 (fun h he => by cases he) (.inl rfl)⟩
def TrAll (P : Program) (N : Nat) (w0 : World) (O0 : Nat → Nat) (l : List Oper) (Q : Post) (e : Env) (M : Mem) : List (List Nat) → Prop
  | [] => True
  | s :: r => TrOps P N w0 O0 l.toArray Q e M (pickL l s) ∧ TrAll P N w0 O0 l Q e M r
theorem TrAll.get {l : List Oper} : ∀ {ss : List (List Nat)} {s : List Nat}, TrAll P N w0 O0 l Q e M ss → s ∈ ss → TrOps P N w0 O0 l.toArray Q e M (pickL l s)
  | _ :: _, _, h, hs => by
    rcases List.mem_cons.1 hs with rfl | hs
    · exact h.1
    · exact TrAll.get h.2 hs
end
/-! ### Strictly sorted lists -/
theorem pw_uniq {α : Type} {r : α → α → Prop} (asy : ∀ x y, r x y → ¬ r y x) : ∀ {l l' : List α}, l.Pairwise r → l'.Pairwise r → (∀ x, x ∈ l ↔ x ∈ l') → l = l'
  | [], [], _, _, _ => rfl
  | [], y :: l', _, _, h => by have := (h y).2 (by simp); simp at this
  | x :: l, [], _, _, h => by have := (h x).1 (by simp); simp at this
  | x :: l, y :: l', h1, h2, h => by
    rw [List.pairwise_cons] at h1 h2
    have irr : ∀ z, ¬ r z z := fun z hz => asy z z hz hz
    have hxy : x = y := by
      rcases List.mem_cons.1 ((h x).1 (by simp)) with e | e
      · exact e
      · rcases List.mem_cons.1 ((h y).2 (by simp)) with e' | e'
        · exact e'.symm
        · exact absurd (h1.1 y e') (asy _ _ (h2.1 x e))
    subst hxy
    have ht : ∀ z, z ∈ l ↔ z ∈ l' := fun z => by
      constructor
      · intro hz
        rcases List.mem_cons.1 ((h z).1 (by simp [hz])) with e | e
        · subst e; exact absurd (h1.1 z hz) (irr z)
        · exact e
      · intro hz
        rcases List.mem_cons.1 ((h z).2 (by simp [hz])) with e | e
        · subst e; exact absurd (h2.1 z hz) (irr z)
        · exact e
    rw [pw_uniq asy h1.2 h2.2 ht]
theorem arcLt_asy (x y : Arc) (h : arcLt x y) : ¬ arcLt y x := by unfold arcLt at *; omega
theorem arcLt_tot {x y : Arc} (h : ¬ arcLt x y) (h' : x ≠ y) : arcLt y x := by
  refine Classical.byContradiction fun hn => h' ?_
  obtain ⟨a, b, c⟩ := x
  obtain ⟨a', b', c'⟩ := y
  unfold arcLt at *
  simp only at *
  have : a = a' ∧ b = b' ∧ c = c' := by omega
  obtain ⟨rfl, rfl, rfl⟩ := this
  rfl
/-! ### The ends of the arcs of a label -/
def endsTo (a : Abs) (x : Int) (k : Nat) : List Asg := ((a.arcs.take k).filter fun r => decide (r.lab = x)).map fun r => (r.fr, r.to)
def endsL (a : Abs) (x : Int) : List Asg := endsTo a x a.arcs.length
theorem mem_in {a : Abs} (ha : AbsOk a) {x : Arc} (h : x ∈ a.arcs) : arcIn a x := by
  obtain ⟨i, hi, rfl⟩ := List.getElem_of_mem h
  have := ha.arc i hi
  rwa [nth_eq hi] at this
/-! ### Equivalent labels -/
def EqvP (l : List Abs) (c : List Int) (ex x y : Int) : Prop := nth c x = nth c y ∧ ∀ i : Nat, i < l.length → (i : Int) ≠ ex → endsL (nth l i) x = endsL (nth l i) y
instance (l : List Abs) (c : List Int) (ex x y : Int) : Decidable (EqvP l c ex x y) := by unfold EqvP; infer_instance
theorem EqvP.refl {l : List Abs} {c : List Int} {ex x : Int} : EqvP l c ex x x := ⟨rfl, fun _ _ _ => rfl⟩
theorem EqvP.symm {l : List Abs} {c : List Int} {ex x y : Int} (h : EqvP l c ex x y) : EqvP l c ex y x := ⟨h.1.symm, fun i h1 h2 => (h.2 i h1 h2).symm⟩
theorem EqvP.trans {l : List Abs} {c : List Int} {ex x y z : Int} (h : EqvP l c ex x y) (k : EqvP l c ex y z) : EqvP l c ex x z := ⟨h.1.trans k.1, fun i h1 h2 => (h.2 i h1 h2).trans (k.2 i h1 h2)⟩
/-- The smallest equivalent label. -/
def lowE (l : List Abs) (c : List Int) (ex : Int) (b : Nat) : Nat := ((List.range b).find? fun (a : Nat) => decide (EqvP l c ex a b)).getD b
def redTo (l : List Abs) (c : List Int) (ex : Int) (k : Nat) : List Int := (List.range k).map fun (b : Nat) => (lowE l c ex b : Int)
/-- The fault of a selection of all abstractions but one. -/
def redF (l : List Abs) (c : List Int) (ex : Int) : Int × Int := if labF l c ≠ (0, 0) then labF l c else if ex < -1 ∨ (l.length : Int) ≤ ex then (3, -8) else (0, 0)
def redL (l : List Abs) (c : List Int) (ex : Int) : List Int := if redF l c ex = (0, 0) then redTo l c ex c.length else []
/-- The fault of a question about two labels. -/
def outTo (f : Int × Int) (n : Int) (q : List Int) : Nat → Int × Int
  | 0 => f
  | k + 1 => if outTo f n q k = (0, 0) ∧ (nth q k < 0 ∨ n ≤ nth q k) then (3, -9) else outTo f n q k
def eqvF (l : List Abs) (c : List Int) (ex x y : Int) : Int × Int := if redF l c ex ≠ (0, 0) then redF l c ex else if (x < 0 ∨ (c.length : Int) ≤ x) ∨ (y < 0 ∨ (c.length : Int) ≤ y) then (3, -9) else (0, 0)
def aplR (a : Abs) (to : List Int) : Abs := if aplF a to = (0, 0) then relA a to else absZ
/-- The reference's way to the fault: k labels looked at. -/
def aplW (a : Abs) (to : List Int) (k : Nat) : Int × Int := if aplF1 a to ≠ (0, 0) then aplF1 a to else if ∃ i : Nat, i < k ∧ (nth to i < 0 ∨ a.labels ≤ nth to i) then (3, -4) else (0, 0)
theorem pw_lt_len {n : Int} : ∀ {l : List Int} {x : Int}, l.Pairwise (· < ·) → (∀ y, y ∈ l → x ≤ y ∧ y < n) → (l.length : Int) ≤ max 0 (n - x)
  | [], x, _, _ => by simp; omega
  | y :: l, x, hp, hm => by
    rw [List.pairwise_cons] at hp
    have h1 := hm y (by simp)
    have := pw_lt_len (n := n) (x := y + 1) hp.2 (fun z hz => ⟨by have := hp.1 z hz; omega, (hm z (by simp [hz])).2⟩)
    simp only [List.length_cons]
    omega
theorem goals_len {a : Abs} (ha : AbsOk a) : (a.goals.length : Int) ≤ a.states := by
  have := pw_lt_len (n := a.states) (x := 0) (setP_sorted ha.goals) (fun y hy => setP_mem ha.goals hy)
  have := ha.head.1
  omega
/-! ### Sorted arcs without duplicates -/
theorem ddTo_last {α : Type} [DecidableEq α] [Inhabited α] {l : List α} : ∀ {k : Nat}, 0 < k → ∃ r, ddTo l k = r ++ [nth l (k - 1 : Int)]
  | 0, h => by omega
  | k + 1, _ => by
    have e : ((k + 1 : Nat) : Int) - 1 = k := by omega
    rw [e]
    simp only [ddTo]
    split
    · rename_i h
      obtain ⟨r, hr⟩ := ddTo_last (l := l) h.1
      exact ⟨r, by rw [hr, h.2]⟩
    · exact ⟨_, rfl⟩
theorem ddTo_mem {α : Type} [DecidableEq α] [Inhabited α] {l : List α} {x : α} : ∀ {k : Nat}, k ≤ l.length → (x ∈ ddTo l k ↔ x ∈ l.take k)
  | 0, _ => by simp [ddTo]
  | k + 1, hk => by
    have ih := ddTo_mem (x := x) (l := l) (k := k) (by omega)
    have hs : l.take (k + 1) = l.take k ++ [nth l k] := by rw [List.take_add_one, List.getElem?_eq_getElem (by omega), nth_eq (by omega)]; rfl
    rw [hs]
    simp only [ddTo]
    split
    · rename_i h
      rw [ih, List.mem_append, List.mem_singleton]
      refine ⟨.inl, fun hx => hx.elim id fun hx => ?_⟩
      obtain ⟨r, hr⟩ := ddTo_last (l := l) h.1
      rw [← ih, hr, hx, h.2]; simp
    · rw [List.mem_append, List.mem_append, ih]
theorem dd_mem {α : Type} [DecidableEq α] [Inhabited α] {l : List α} {x : α} : x ∈ dd l ↔ x ∈ l := by
  unfold dd; rw [ddTo_mem (Nat.le_refl _), List.take_length]
theorem dd_strict {l : List Arc} (h : l.Pairwise fun x y => ¬ arcLt y x) : (dd l).Pairwise arcLt := by
  have hp : ∀ i j : Nat, i < j → j < l.length → ¬ arcLt (nth l j) (nth l i) := fun i j hij hj => by
    rw [nth_eq hj, nth_eq (by omega)]
    exact List.pairwise_iff_getElem.1 h i j (by omega) hj hij
  have key : ∀ k : Nat, k ≤ l.length → (ddTo l k).Pairwise arcLt := by
    intro k
    induction k with
    | zero => intro _; simp [ddTo]
    | succ k ih =>
      intro hk
      have ih := ih (by omega)
      simp only [ddTo]
      split
      · exact ih
      · rename_i hne
        rw [List.pairwise_append]
        refine ⟨ih, by simp, fun y hy z hz => ?_⟩
        rw [List.mem_singleton] at hz
        subst hz
        rw [ddTo_mem (by omega)] at hy
        obtain ⟨i, hi, rfl⟩ := List.getElem_of_mem hy
        rw [List.length_take] at hi
        have e : (l.take k)[i] = nth l i := by rw [List.getElem_take, nth_eq (by omega)]
        rw [e]
        have h0 : 0 < k := by omega
        have hn : nth l k ≠ nth l (k - 1 : Int) := fun he => hne ⟨h0, he⟩
        have e1 : ((k : Int) - 1) = ((k - 1 : Nat) : Int) := by omega
        rw [e1] at hn
        have l1 : arcLt (nth l (k - 1 : Nat)) (nth l k) := arcLt_tot (hp (k - 1) k (by omega) (by omega)) hn
        by_cases hik : i = k - 1
        · rw [hik]; exact l1
        · by_cases he : nth l i = nth l (k - 1 : Nat)
          · rw [he]; exact l1
          · exact arcLt_trans (arcLt_tot (hp i (k - 1) (by omega) (by omega)) (fun h => he h.symm)) l1
  exact key _ (Nat.le_refl _)
theorem sd_strict {l : List Arc} : (dd (sortL l)).Pairwise arcLt := dd_strict (sortL_pw l)
theorem sd_mem {l : List Arc} {x : Arc} : x ∈ dd (sortL l) ↔ x ∈ l := by rw [dd_mem, sortL_mem]
theorem dd_len {α : Type} [DecidableEq α] [Inhabited α] {l : List α} : (dd l).length ≤ l.length := ddTo_len
theorem sd_len {l : List Arc} : (dd (sortL l)).length ≤ l.length := by have := dd_len (l := sortL l); rwa [sortL_len] at this
/-- Strictly sorted lists with the same members. -/
theorem arcs_uniq {l l' : List Arc} (h : l.Pairwise arcLt) (h' : l'.Pairwise arcLt) (hm : ∀ x, x ∈ l ↔ x ∈ l') : l = l' := pw_uniq arcLt_asy h h' hm
/-! ### The reference's insertion -/
def cntL (l : List Arc) (x : Arc) : Nat := (l.takeWhile fun y => decide (arcLt y x)).length
theorem cntL_of {x : Arc} : ∀ {l : List Arc} {k : Nat}, k ≤ l.length → (∀ i : Nat, i < k → arcLt (nth l i) x) → (k < l.length → ¬ arcLt (nth l k) x) → cntL l x = k
  | [], k, hk, _, _ => by have : k = 0 := by simpa using hk
                          subst this; rfl
  | y :: l, 0, hk, _, hn => by
    have := hn (by simp)
    have e : nth (y :: l) ((0 : Nat) : Int) = y := rfl
    rw [e] at this
    simp [cntL, List.takeWhile_cons, this]
  | y :: l, k + 1, hk, h, hn => by
    have h0 := h 0 (by omega)
    have e : nth (y :: l) ((0 : Nat) : Int) = y := rfl
    rw [e] at h0
    have es : ∀ i : Nat, nth (y :: l) ((i + 1 : Nat) : Int) = nth l i := fun i => by simp [nth]
    have ih := cntL_of (x := x) (l := l) (k := k) (by simpa using hk) (fun i hi => by rw [← es]; exact h (i + 1) (by omega)) (fun hk => by rw [← es]; exact hn (by simpa using hk))
    unfold cntL at *
    rw [List.takeWhile_cons, if_pos (by simpa using h0), List.length_cons, ih]
theorem cntL_spec {x : Arc} {l : List Arc} : cntL l x ≤ l.length ∧ (∀ i : Nat, i < cntL l x → arcLt (nth l i) x) ∧ (cntL l x < l.length → ¬ arcLt (nth l (cntL l x)) x) := by
  have key : ∀ n : Nat, n ≤ l.length → (∃ k : Nat, k ≤ l.length ∧ (∀ i : Nat, i < k → arcLt (nth l i) x) ∧ (k < l.length → ¬ arcLt (nth l k) x)) ∨ ∀ i : Nat, i < n → arcLt (nth l i) x := by
    intro n
    induction n with
    | zero => exact fun _ => .inr fun i hi => by omega
    | succ n ih =>
      intro hn
      rcases ih (by omega) with h | h
      · exact .inl h
      · by_cases hx : arcLt (nth l n) x
        · refine .inr fun i hi => ?_
          by_cases e : i = n
          · subst e; exact hx
          · exact h i (by omega)
        · exact .inl ⟨n, by omega, h, fun _ => hx⟩
  have ex : ∃ k : Nat, k ≤ l.length ∧ (∀ i : Nat, i < k → arcLt (nth l i) x) ∧ (k < l.length → ¬ arcLt (nth l k) x) := by
    rcases key l.length (Nat.le_refl _) with h | h
    · exact h
    · exact ⟨l.length, Nat.le_refl _, h, fun h => by omega⟩
  obtain ⟨k, h1, h2, h3⟩ := ex
  rw [cntL_of h1 h2 h3]
  exact ⟨h1, h2, h3⟩
def skpL (l : List Arc) (x : Arc) : Nat := if cntL l x < l.length ∧ nth l (cntL l x) = x then cntL l x + 1 else cntL l x
def insL (l : List Arc) (x : Arc) : List Arc := l.take (cntL l x) ++ [x] ++ l.drop (skpL l x)
theorem insL_len {l : List Arc} {x : Arc} : (insL l x).length ≤ l.length + 1 := by
  have := (cntL_spec (x := x) (l := l)).1
  unfold insL skpL
  split <;> simp <;> omega
theorem insL_ok {l : List Arc} {x : Arc} (hl : l.Pairwise arcLt) : (insL l x).Pairwise arcLt ∧ ∀ y, y ∈ insL l x ↔ y = x ∨ y ∈ l := by
  obtain ⟨h1, h2, h3⟩ := cntL_spec (x := x) (l := l)
  have hlt : ∀ y, y ∈ l.take (cntL l x) → arcLt y x := fun y hy => by
    obtain ⟨i, hi, rfl⟩ := List.getElem_of_mem hy
    rw [List.length_take] at hi
    have := h2 i (by omega)
    rw [nth_eq (by omega)] at this
    rw [List.getElem_take]; exact this
  have hsk : cntL l x ≤ skpL l x ∧ (∀ i : Nat, cntL l x ≤ i → i < skpL l x → nth l i = x) ∧ (skpL l x < l.length → arcLt x (nth l (skpL l x))) ∧ skpL l x ≤ l.length := by
    unfold skpL
    split
    · rename_i h
      refine ⟨by omega, fun i q1 q2 => ?_, fun h4 => ?_, by omega⟩
      · have : i = cntL l x := by omega
        subst this; exact h.2
      · have hh := List.pairwise_iff_getElem.1 hl (cntL l x) (cntL l x + 1) (by omega) h4 (by omega)
        have e1 := h.2
        rw [nth_eq h.1] at e1
        rw [e1] at hh
        rwa [nth_eq h4]
    · rename_i h
      refine ⟨Nat.le_refl _, fun i q1 q2 => by omega, fun h4 => ?_, h1⟩
      exact arcLt_tot (h3 h4) (fun e => h ⟨h4, e⟩)
  obtain ⟨q1, q2, q3, q4⟩ := hsk
  have hgt : ∀ y, y ∈ l.drop (skpL l x) → arcLt x y := fun y hy => by
    obtain ⟨i, hi, rfl⟩ := List.getElem_of_mem hy
    rw [List.length_drop] at hi
    rw [List.getElem_drop]
    have h4 := q3 (by omega)
    rw [nth_eq (by omega)] at h4
    by_cases hi0 : i = 0
    · subst hi0; simpa using h4
    · exact arcLt_trans h4 (List.pairwise_iff_getElem.1 hl (skpL l x) (skpL l x + i) (by omega) (by omega) (by omega))
  have hsplit : ∀ y, y ∈ l ↔ y ∈ l.take (cntL l x) ∨ (y = x ∧ cntL l x < skpL l x) ∨ y ∈ l.drop (skpL l x) := fun y => by
    constructor
    · intro hy
      obtain ⟨i, hi, rfl⟩ := List.getElem_of_mem hy
      by_cases c1 : i < cntL l x
      · exact .inl (List.mem_take_iff_getElem.2 ⟨i, by omega, rfl⟩)
      · by_cases c2 : i < skpL l x
        · have := q2 i (by omega) c2
          rw [nth_eq hi] at this
          exact .inr (.inl ⟨this, by omega⟩)
        · exact .inr (.inr (List.mem_drop_iff_getElem.2 ⟨i - skpL l x, by omega, by congr 1; omega⟩))
    · rintro (h | ⟨rfl, h⟩ | h)
      · exact List.mem_of_mem_take h
      · have hlt : cntL l y < l.length := by omega
        have := q2 (cntL l y) (Nat.le_refl _) h
        rw [nth_eq hlt] at this
        have hm : l[cntL l y] ∈ l := List.getElem_mem hlt
        rwa [this] at hm
      · exact List.mem_of_mem_drop h
  refine ⟨?_, fun y => ?_⟩
  · unfold insL
    rw [List.append_assoc, List.pairwise_append, List.pairwise_append]
    refine ⟨hl.sublist (List.take_sublist _ _), ⟨by simp, hl.sublist (List.drop_sublist _ _), fun a ha b hb => ?_⟩, fun a ha b hb => ?_⟩
    · rw [List.mem_singleton] at ha; subst ha; exact hgt b hb
    · rcases List.mem_append.1 hb with hb | hb
      · rw [List.mem_singleton] at hb; subst hb; exact hlt a ha
      · exact arcLt_trans (hlt a ha) (hgt b hb)
  · rw [hsplit y]
    unfold insL
    rw [List.append_assoc, List.mem_append, List.mem_append, List.mem_singleton]
    constructor
    · rintro (h | h | h)
      · exact .inr (.inl h)
      · exact .inl h
      · exact .inr (.inr (.inr h))
    · rintro (h | h | ⟨h, _⟩ | h)
      · exact .inr (.inl h)
      · exact .inl h
      · exact .inr (.inl h)
      · exact .inr (.inr h)
def insTo (f : Nat → Arc) : Nat → List Arc
  | 0 => []
  | k + 1 => insL (insTo f k) (f k)
theorem insTo_len {f : Nat → Arc} : ∀ {k : Nat}, (insTo f k).length ≤ k
  | 0 => Nat.le_refl _
  | k + 1 => by have := insTo_len (f := f) (k := k); have := insL_len (l := insTo f k) (x := f k); simp only [insTo]; omega
theorem insTo_ok {f : Nat → Arc} : ∀ {k : Nat}, (insTo f k).Pairwise arcLt ∧ ∀ y, y ∈ insTo f k ↔ ∃ i : Nat, i < k ∧ y = f i
  | 0 => ⟨by simp [insTo], fun y => by simp [insTo]⟩
  | k + 1 => by
    obtain ⟨h1, h2⟩ := insTo_ok (f := f) (k := k)
    obtain ⟨h3, h4⟩ := insL_ok (x := f k) h1
    refine ⟨h3, fun y => ?_⟩
    simp only [insTo]
    rw [h4, h2]
    constructor
    · rintro (h | ⟨i, hi, h⟩)
      · exact ⟨k, by omega, h⟩
      · exact ⟨i, by omega, h⟩
    · rintro ⟨i, hi, h⟩
      by_cases e : i = k
      · subst e; exact .inl h
      · exact .inr ⟨i, by omega, h⟩
/-- The arcs with other labels. -/
def relI (a : Abs) (to : List Int) (i : Nat) : Arc := ⟨(nth a.arcs i).fr, nth to (nth a.arcs i).lab, (nth a.arcs i).to⟩
/-! ### Distances depend on the set of edges alone -/
/-! ### The example -/
abbrev exL : Abs := ⟨2, 3, [⟨0, 0, 1⟩, ⟨0, 2, 1⟩], 0, [1]⟩
section
variable {P : Program} {B : Nat} {o : Oper} {e : Env} {M : Mem}
/-- Data appended to nil: a slice of the call's own. -/
theorem OpSem.appendNil {x y : Operand} {t k T by_ : Nat} {rows2 : List (List D)} {zs : List Value} (h : Nat) (ho : o.op = .call { callee := .builtin .append, args := #[x, y], argTypes := #[t, t] })
    (hx : opS e x = some (.d (.v (.slice none 0 0)))) (hy : opS e y = some (.d (.s k rows2))) (hk : esz P t = some k) (hT : P.elem t = T) (hz : zcells P T = some zs) (hzk : zs.length = k) (hk0 : 0 < k) (hby : P.bytesOf T = by_)
    (hone : ∀ r, r ∈ rows2 → r.all D.one = true) (hlen : rows2.length ≤ maxLen) (hroom : rows2.length * by_ ≤ 140737488355328) :
    OpSem P B o e M (.o h) (some (h, .own k T rows2)) := by
  intro O H a w hB hs hm K hK
  have hr := hs x (by simp [ho, Op.operands, Call.operands]) _ hx
  have hv := hs y (by simp [ho, Op.operands, Call.operands]) _ hy
  generalize hxa : a.eval x = xa at hr
  generalize hya : a.eval y = ya at hv
  obtain rfl : xa = .slice none 0 0 := by cases hr with | d _ _ q => cases q with | v _ => rfl
  obtain ⟨hu, i, hi, hik⟩ := esz_spec hk
  rw [hT] at hu hi
  have hbi : i.bytes = by_ := by simpa [Program.bytesOf, hi] using hby
  obtain ⟨z, hiz, hzc⟩ : ∃ z, i.zero = some z ∧ z.cells = zs.toArray := by
    unfold zcells at hz
    cases hq : i.zero with
    | none => simp [hi, hq] at hz
    | some z => simp [hi, hq] at hz; exact ⟨z, rfl, by rw [← hz]⟩
  have hzz : z.cells.size = k := by rw [hzc]; simpa using hzk
  by_cases hne : rows2 = []
  · subst hne
    have hya' : ∃ ad c, ya = .slice ad 0 c := by
      cases hv with
      | d _ _ q => obtain ⟨ad, c, e, _⟩ := q.slice; exact ⟨ad, c, e⟩
    obtain ⟨ad, c, rfl⟩ := hya'
    have hf : ∀ w, (Builtin.firstCells k 0 (.slice ad 0 c)).run P w = .ok #[] w := by
      intro w
      cases ad with
      | none => simp [Builtin.firstCells]
      | some a => simp [Builtin.firstCells, loadCells, loadCellsFrom]
    have hrun : (execOp a.eval o).run P w = .ok (.value (.slice none 0 0)) w := by
      simp [execOp, ho, resolve, invoke, builtin, hxa, hya, Builtin.append_, run_underlying hu, Go.sizeOf, typeInfo, hi, Builtin.lenOf, hik, hf]
    unfold Oper.wp
    rw [hrun]
    obtain ⟨H', hH'⟩ : ∃ H' : Nat → Value, H' = fun m => if m = h then (.slice none 0 0 : Value) else H m := ⟨_, rfl⟩
    have hH : H' h = .slice none 0 0 := by rw [hH']; simp
    refine hK O H' w _ ⟨fun _ _ => rfl, fun _ _ _ => rfl, fun n hn => by rw [hH']; simp; intro e; subst e; exact (hn (by simp)).elim⟩ (.refl _ _) ?_ (fun h' m he => ?_)
    · have := RepS.o (O := O) (w := w) (H := H') h (by rw [hH]; rfl)
      rwa [hH] at this
    · simp only [Option.some.injEq, Prod.mk.injEq] at he
      obtain ⟨rfl, rfl⟩ := he
      exact .inl ⟨hH, rfl⟩
  · have hpos : 0 < rows2.length := List.length_pos_iff.2 hne
    obtain ⟨a2, c2, rfl, hv2⟩ : ∃ a2 c2, ya = .slice (some a2) rows2.length c2 ∧ RepD O w (.slice (some a2) rows2.length c2) (.s k rows2) := by
      cases hv with
      | d _ _ q => cases q with
        | e => simp at hpos
        | s b off c _ _ yv h1 h2 h3 h4 h5 h6 => exact ⟨⟨b, off, none⟩, c, rfl, .s b off c k rows2 yv h1 h2 h3 h4 h5 h6⟩
    obtain ⟨_, news, hn1, hn2⟩ := hv2.cellsL hk0
    have hnl : news.length = rows2.length * i.size := by rw [hn1.1, hik]
    have hrun0 := run_append_nil (P := P) w t o.type T i z hu hi hiz a2 rows2.length c2 news hnl hn2 hpos (by simp only [maxLen] at hlen; omega) (by rw [hbi]; omega)
    obtain ⟨cap, hcap⟩ : ∃ cap, cap = grownCap w rows2.length 0 T := ⟨_, rfl⟩
    have hc1 : rows2.length ≤ cap := by rw [hcap]; exact grownCap_ge w rows2.length 0 T
    have hc2 : cap ≤ maxLen := by rw [hcap]; exact grownCap_le_maxLen w rows2.length 0 T hlen
    rw [← hcap] at hrun0
    have hrun : (execOp a.eval o).run P w = .ok (.value (.slice (some ⟨w.heap.size, 0, none⟩) rows2.length cap)) (w.drew.alloc (.cells (news.toArray ++ Builtin.zeroCells z.cells (cap - rows2.length)) T)) := by
      simp [execOp, ho, resolve, invoke, builtin, hxa, hya, hrun0]
    unfold Oper.wp
    rw [hrun]
    obtain ⟨H', hH'⟩ : ∃ H' : Nat → Value, H' = fun m => if m = h then (.slice (some ⟨w.heap.size, 0, none⟩) rows2.length cap : Value) else H m := ⟨_, rfl⟩
    have hH : H' h = .slice (some ⟨w.heap.size, 0, none⟩) rows2.length cap := by rw [hH']; simp
    have hkp : Keeps O w (fun b' => if b' = w.heap.size then h + 1 else O b') (w.drew.alloc (.cells (news.toArray ++ Builtin.zeroCells z.cells (cap - rows2.length)) T)) :=
      fun b' hb' hO => ⟨by simp [Nat.ne_of_lt hb', hO], heap_alloc_old w.drew _ hb'⟩
    refine hK (fun b' => if b' = w.heap.size then h + 1 else O b') H' _ _ ⟨fun b' hb' => by simp [Nat.ne_of_lt hb'], fun b' hb' _ => heap_alloc_old w.drew _ hb', fun n hn => by rw [hH']; simp; intro e; subst e; exact (hn (by simp)).elim⟩
      ⟨rfl, rfl, rfl, by simp, fun b' hb' => heap_alloc_old w.drew _ (by simp; omega)⟩ ?_ (fun h' m he => ?_)
    · have := RepS.o (O := fun b' => if b' = w.heap.size then h + 1 else O b') (w := w.drew.alloc (.cells (news.toArray ++ Builtin.zeroCells z.cells (cap - rows2.length)) T)) (H := H') h (by rw [hH]; rfl)
      rwa [hH] at this
    · simp only [Option.some.injEq, Prod.mk.injEq] at he
      obtain ⟨rfl, rfl⟩ := he
      refine .inr ⟨w.heap.size, cap, _, by rw [hH], hB, by simp, heap_alloc_new w.drew _, hc1, hc2, ?_, hn1.2.1, fun i' r j d hi' hj => ?_⟩
      · simp only [Array.size_append, List.size_toArray, size_zeroCells, hzz, hn1.1, ← Nat.add_mul]
        congr 1; omega
      · obtain ⟨v, hv, hrep⟩ := hn1.2.2 i' r j d hi' hj
        refine ⟨v, ?_, hrep.mono hkp, hrep.one' ?_⟩
        · have hlt := (List.getElem?_eq_some_iff.1 hv).1
          rw [Array.getElem?_append_left (by simpa using hlt)]; simpa using hv
        · have := hone r (List.mem_of_getElem? hi')
          rw [List.all_eq_true] at this
          exact this d (List.mem_of_getElem? hj)
end
section
variable {P : Program} {B : Nat} {o : Oper} {e : Env} {M : Mem}
end
end Go.Eng
end

section
/- Walks, written by gen.py out of hints. -/




set_option linter.unusedVariables false
set_option linter.unusedSimpArgs false
namespace Go.Proofs.Ythgcnfolgbaemaa
open Go.Eng
set_option maxRecDepth 10000
set_option maxHeartbeats 1000000



end Go.Proofs.Ythgcnfolgbaemaa
end

section
/- Walks, written by gen.py out of hints. -/










set_option linter.unusedVariables false
set_option linter.unusedSimpArgs false
namespace Go.Proofs.Ythgcnfolgbaemaa
open Go.Eng
set_option maxRecDepth 10000
set_option maxHeartbeats 1000000


open Go.Shelf Go.RowKit Go.Lib
theorem or3 (x y z : Int) (b : Nat) (w : World) (h0 : w.cell? ⟨b, 0, none⟩ = some (.int .i64 x)) (h1 : w.cell? ⟨b, 1, none⟩ = some (.int .i64 y)) (h2 : w.cell? ⟨b, 2, none⟩ = some (.int .i64 z)) :
    Calls Try.prog 55 #[.slice (some ⟨b, 0, none⟩) 3 3] w fun e w' => e = .returned (.int .i64 (if x ≠ 0 then x else if y ≠ 0 then y else z)) ∧ w' = w := by
  by_cases hx : x = 0
  · subst hx
    by_cases hy : y = 0
    · subst hy
      by_cases hz : z = 0
      · subst hz
        go_enter Try.func55, Try.ntmps55
        go_wp2
        refine wp_loop_rounds 4 ?_
        rw [rounds_succ]
        go_wp2
        rw [rounds_succ]
        go_wp2
        rw [rounds_succ]
        go_wp2
        rw [rounds_succ]
        go_wp2
        go_ret
        exact ⟨by simp, rfl⟩
      · go_enter Try.func55, Try.ntmps55
        go_wp2
        refine wp_loop_rounds 4 ?_
        rw [rounds_succ]
        go_wp2
        rw [rounds_succ]
        go_wp2
        rw [rounds_succ]
        go_wp2
        go_ret
        exact ⟨by simp, rfl⟩
    · go_enter Try.func55, Try.ntmps55
      go_wp2
      refine wp_loop_rounds 4 ?_
      rw [rounds_succ]
      go_wp2
      rw [rounds_succ]
      go_wp2
      go_ret
      exact ⟨by simp [hy], rfl⟩
  · go_enter Try.func55, Try.ntmps55
    go_wp2
    refine wp_loop_rounds 4 ?_
    rw [rounds_succ]
    go_wp2
    go_ret
    exact ⟨by simp [hx], rfl⟩
theorem cmp3 (x y : Int) (w : World) : Calls Try.prog 56 #[.int .i64 x, .int .i64 y] w fun e w' => e = .returned (.int .i64 (cmpI x y)) ∧ w' = w := by
  have hn : ∀ (z : Int) (w : World), Calls Try.prog 71 #[.int .i64 z] w fun e w' => e = .returned (.bool false) ∧ w' = w := by
    intro z w
    go_enter Try.func71, Try.ntmps71
    go_wp2
    go_ret
    exact ⟨by simp, rfl⟩
  rcases Int.lt_trichotomy x y with h | h | h
  · go_enter Try.func56, Try.ntmps56
    go_wp2_with (go_at_call 71; refine (hn _ _).mono ?_; rintro e w' ⟨rfl, rfl⟩)
    all_goals go_ret
    all_goals exact ⟨by first | rfl | (unfold cmpI; simp; omega) | (simp at *; omega), rfl⟩
  · subst h
    go_enter Try.func56, Try.ntmps56
    go_wp2_with (go_at_call 71; refine (hn _ _).mono ?_; rintro e w' ⟨rfl, rfl⟩)
    all_goals go_ret
    all_goals exact ⟨by first | rfl | (unfold cmpI; simp) | (simp at *; omega), rfl⟩
  · go_enter Try.func56, Try.ntmps56
    go_wp2_with (go_at_call 71; refine (hn _ _).mono ?_; rintro e w' ⟨rfl, rfl⟩)
    all_goals go_ret
    all_goals exact ⟨by first | rfl | (unfold cmpI; simp; omega) | (simp at *; omega), rfl⟩
theorem or3' (x y z c : Int) (hc : (if x ≠ 0 then x else if y ≠ 0 then y else z) = c) (b : Nat) (w : World) (h0 : w.cell? ⟨b, 0, none⟩ = some (.int .i64 x)) (h1 : w.cell? ⟨b, 1, none⟩ = some (.int .i64 y)) (h2 : w.cell? ⟨b, 2, none⟩ = some (.int .i64 z)) :
    Calls Try.prog 55 #[.slice (some ⟨b, 0, none⟩) 3 3] w fun e w' => e = .returned (.int .i64 c) ∧ w' = w := by
  subst hc; exact or3 x y z b w h0 h1 h2
theorem cell3 (W : World) (A B : Obj) (vs : Array Value) (T i : Nat) (v : Value) (h : vs[i]? = some v) : (((W.alloc A).alloc B).alloc (.cells vs T)).drew.cell? ⟨W.heap.size + 1 + 1, i, none⟩ = some v := by
  have hb : (((W.heap.push A).push B).push (.cells vs T))[W.heap.size + 1 + 1]? = some (.cells vs T) := by
    rw [Array.getElem?_push, if_pos (by simp)]
  unfold World.cell? World.drew World.alloc
  simp only [hb]
  exact h
theorem compare3 (x y : Arc) (W : World) : Calls Try.prog 43 #[.agg #[.int .i64 x.fr, .int .i64 x.lab, .int .i64 x.to], .agg #[.int .i64 y.fr, .int .i64 y.lab, .int .i64 y.to]] W fun e w' => e = .returned (.int .i64 (cmpArc x y)) ∧ ∃ q os', w' = _root_.Go.Sort.grow (W.drewN q) os' := by
  have hr : (if cmpI x.fr y.fr ≠ 0 then cmpI x.fr y.fr else if cmpI x.lab y.lab ≠ 0 then cmpI x.lab y.lab else cmpI x.to y.to) = cmpArc x y := by
    unfold cmpArc orI
    simp only [List.find?_cons, List.find?_nil]
    by_cases h1 : cmpI x.fr y.fr = 0 <;> by_cases h2 : cmpI x.lab y.lab = 0 <;> by_cases h3 : cmpI x.to y.to = 0 <;> simp [h1, h2, h3]
  go_enter Try.func43, Try.ntmps43
  go_upto_region 1 with fail
  go_region_held3 (fun w' => w'.cell? ⟨W.heap.size, 0, none⟩ = some (.int .i64 x.fr) ∧ w'.cell? ⟨W.heap.size, 1, none⟩ = some (.int .i64 x.lab) ∧ w'.cell? ⟨W.heap.size, 2, none⟩ = some (.int .i64 x.to) ∧ w'.cell? ⟨W.heap.size + 1, 0, none⟩ = some (.int .i64 y.fr) ∧ w'.cell? ⟨W.heap.size + 1, 1, none⟩ = some (.int .i64 y.lab) ∧ w'.cell? ⟨W.heap.size + 1, 2, none⟩ = some (.int .i64 y.to)) (go_keep)
    (first | (go_at_call 56; refine (cmp3 _ _ _).mono ?_; rintro e w' ⟨rfl, rfl⟩) | (go_at_call 55; refine (or3' (cmpI x.fr y.fr) (cmpI x.lab y.lab) (cmpI x.to y.to) (cmpArc x y) hr _ _ ?_ ?_ ?_).mono ?_; exact cell3 _ _ _ _ _ _ _ rfl; exact cell3 _ _ _ _ _ _ _ rfl; exact cell3 _ _ _ _ _ _ _ rfl; rintro e w' ⟨rfl, rfl⟩))

  go_wp2
  go_ret

  exact ⟨by simp, 1, _, by rw [Go.Sort.alloc_eq_grow, Go.Sort.alloc_eq_grow, Go.Sort.alloc_eq_grow, Go.Sort.grow_grow, Go.Sort.grow_grow, Go.Sort.drew_grow]; rfl⟩

def Try.sortArc_ren : Go.Shelf.Ren := ⟨fun | 6 => 45 | 15 => 51 | 14 => 57 | 28 => 67 | 29 => 68 | 20 => 72 | 21 => 73 | 22 => 74 | 23 => 75 | 24 => 76 | 25 => 77 | 26 => 78 | 27 => 79 | 46 => 87 | 47 => 81 | 48 => 82 | 49 => 88 | 50 => 89 | 57 => 91 | n => n, fun | 22 => 22 | 24 => 57 | 25 => 68 | 3 => 3 | 39 => 79 | 0 => 0 | 53 => 94 | 55 => 96 | 4 => 4 | 46 => 88 | 45 => 87 | 50 => 70 | 5 => 5 | 9 => 9 | 66 => 105 | 70 => 109 | 76 => 117 | 77 => 118 | n => n, fun | n => n⟩
theorem Try.sortArc : Go.Proofs.SlLaysF0.n6 Try.prog Try.sortArc_ren := {
 mixed := by kernel_rfl
 f6 := ⟨Try.f45.name, by decide, Try.func45.trans (congrArg some (by kernel_rfl))⟩
 f14 := ⟨Try.f57.name, by decide, Try.func57.trans (congrArg some (by kernel_rfl))⟩
 f15 := Try.func51.trans (congrArg some (by kernel_rfl))
 f20 := ⟨Try.f72.name, by decide, Try.func72.trans (congrArg some (by kernel_rfl))⟩
 f21 := ⟨Try.f73.name, by decide, Try.func73.trans (congrArg some (by kernel_rfl))⟩
 f22 := ⟨Try.f74.name, by decide, Try.func74.trans (congrArg some (by kernel_rfl))⟩
 f23 := ⟨Try.f75.name, by decide, Try.func75.trans (congrArg some (by kernel_rfl))⟩
 f24 := ⟨Try.f76.name, by decide, Try.func76.trans (congrArg some (by kernel_rfl))⟩
 f25 := ⟨Try.f77.name, by decide, Try.func77.trans (congrArg some (by kernel_rfl))⟩
 f26 := ⟨Try.f78.name, by decide, Try.func78.trans (congrArg some (by kernel_rfl))⟩
 f27 := ⟨Try.f79.name, by decide, Try.func79.trans (congrArg some (by kernel_rfl))⟩
 f28 := Try.func67.trans (congrArg some (by kernel_rfl))
 f29 := Try.func68.trans (congrArg some (by kernel_rfl))
 f46 := ⟨Try.f87.name, by decide, Try.func87.trans (congrArg some (by kernel_rfl))⟩
 f47 := Try.func81.trans (congrArg some (by kernel_rfl))
 f48 := Try.func82.trans (congrArg some (by kernel_rfl))
 f49 := ⟨Try.f88.name, by decide, Try.func88.trans (congrArg some (by kernel_rfl))⟩
 f50 := ⟨Try.f89.name, by decide, Try.func89.trans (congrArg some (by kernel_rfl))⟩
 f57 := ⟨Try.f91.name, by decide, Try.func91.trans (congrArg some (by kernel_rfl))⟩
 t0 := Try.underlying0
 a0 := Try.isAgg0
 z0 := Try.sizeOf0
 v0 := Try.zeroValue0
 t3 := Try.underlying3
 a3 := Try.isAgg3
 z3 := Try.sizeOf3
 v3 := Try.zeroValue3
 t4 := Try.underlying4
 a4 := Try.isAgg4
 z4 := Try.sizeOf4
 v4 := Try.zeroValue4
 t5 := Try.underlying5
 a5 := Try.isAgg5
 z5 := Try.sizeOf5
 v5 := Try.zeroValue5
 t9 := Try.underlying9
 a9 := Try.isAgg9
 z9 := Try.sizeOf9
 v9 := Try.zeroValue9
 t22 := Try.underlying22
 a22 := Try.isAgg22
 z22 := Try.sizeOf22
 v22 := Try.zeroValue22
 t25 := Try.underlying68
 a25 := Try.isAgg68
 z25 := Try.sizeOf68
 v25 := Try.zeroValue68
 t39 := Try.underlying79
 a39 := Try.isAgg79
 z39 := Try.sizeOf79
 v39 := Try.zeroValue79
 t45 := Try.underlying87
 a45 := Try.isAgg87
 z45 := Try.sizeOf87
 v45 := Try.zeroValue87
 t46 := Try.underlying88
 a46 := Try.isAgg88
 z46 := Try.sizeOf88
 v46 := Try.zeroValue88
 t50 := Try.underlying70
 a50 := Try.isAgg70
 z50 := Try.sizeOf70
 v50 := Try.zeroValue70
 t53 := Try.underlying94
 a53 := Try.isAgg94
 z53 := Try.sizeOf94
 v53 := Try.zeroValue94
 t55 := Try.underlying96
 a55 := Try.isAgg96
 z55 := Try.sizeOf96
 v55 := Try.zeroValue96
 t66 := Try.underlying105
 a66 := Try.isAgg105
 z66 := Try.sizeOf105
 v66 := Try.zeroValue105
 t70 := Try.underlying109
 a70 := Try.isAgg109
 z70 := Try.sizeOf109
 v70 := Try.zeroValue109
 t76 := Try.underlying117
 a76 := Try.isAgg117
 z76 := Try.sizeOf117
 v76 := Try.zeroValue117
 t77 := Try.underlying118
 a77 := Try.isAgg118
 z77 := Try.sizeOf118
 v77 := Try.zeroValue118 }
def arcEnc (x : Arc) : List Value := [.int .i64 x.fr, .int .i64 x.lab, .int .i64 x.to]
theorem sortArc_W (l : List Arc) (hl : l.length < 4611686018427387904) : DoesWS Try.prog 45 (fun v => [v, .func (.func 43) #[] #[]]) (.tuple #[]) 3 57 (l.map arcC) ((sortL l).map arcC) :=
  sortFunc_W (α := Arc) Try.sortArc 3 57 Try.isAgg57 Try.sizeOf57 arcEnc (fun _ => rfl) (fun x v hv => by simp [arcEnc] at hv; rcases hv with rfl | rfl | rfl <;> rfl) cmpArc ltArc_swo ltArc_tot 43 (enters_of Try.func43 (by kernel_rfl) rfl) (fun _ _ _ _ _ _ _ _ x y => compare3 x y _) Try.call45 l hl


end Go.Proofs.Ythgcnfolgbaemaa
end

section
/- Walks, written by gen.py out of hints. -/



set_option linter.unusedVariables false
set_option linter.unusedSimpArgs false
namespace Go.Proofs.Ythgcnfolgbaemaa
open Go.Eng
set_option maxRecDepth 10000
set_option maxHeartbeats 1000000

theorem slices_Compact_Arc_Arc_W (l : List Arc) (hne : l ≠ []) (hml : (l.length : Int) ≤ 9223372036854775807) : DoesW Try.prog 46 (fun v => [v]) (fun v => v) 3 57 (l.map arcC) ((dd l).map arcC) := by
  have hpos : 0 < l.length := List.length_pos_iff.2 hne
  refine DoesW.of_body (as_ := [.o 0]) Try.func46 rfl rfl (by simp) Try.call46 (fun _ => rfl) (by intro O H w h1 i x s hx hs; rcases i with _ | i <;> simp at hx hs; subst hx; subst hs; exact .o 0 h1) (by simpa using hne) (by simpa using dd_ne hne) (fun O0 Oc W => ?_)
  refine Tr.seq ?_
  refine Tr.region ?_
  refine TrOps.sem (OpSem.move (.inr rfl) rfl) rfl rfl (by decide) ?_
  refine TrOps.nil ?_
  refine At.seq ?_
  refine Tr.seq ?_
  refine Tr.seq ?_
  refine Tr.region ?_
  refine TrOps.sem (OpSem.move (.inl rfl) rfl) rfl rfl (by decide) ?_
  refine TrOps.sem (OpSem.leno rfl rfl rfl es22) rfl rfl (by decide) ?_
  refine TrOps.sem (OpSem.bin rfl rfl rfl blss) rfl rfl (by decide) ?_
  refine TrOps.nil ?_
  refine At.seq ?_
  refine Tr.cond rfl (fun c8 => ?_) (fun c8 => ?_)
  · have hlt : l.length < 2 := by simp at c8; omega
    refine Tr.seq ?_
    refine Tr.region ?_
    refine TrOps.sem (OpSem.move (.inl rfl) rfl) rfl rfl (by decide) ?_
    refine TrOps.sem (OpSem.move (.inr rfl) rfl) rfl rfl (by decide) ?_
    refine TrOps.nil ?_
    refine At.seq ?_
    refine Tr.ret ?_
    refine At.pass_ret ?_
    exact At.retW rfl (.tmp rfl <| .nil) rfl rfl (by simp [plainB]) (by rw [dd_one hlt]) (fun H => rfl)
  · have hge : 2 ≤ l.length := by simp at c8; omega
    refine Tr.skip ?_
    refine At.seq ?_
    refine Tr.seq ?_
    refine Tr.seq ?_
    refine Tr.region ?_
    refine TrOps.sem (OpSem.move (.inr rfl) rfl) rfl rfl (by decide) ?_
    refine TrOps.nil ?_
    refine At.seq ?_
    refine Tr.block ?_
    refine Tr.loop (X := Nat) (fun k => 1 ≤ k ∧ k ≤ l.length ∧ ∀ i : Nat, 0 < i → i < k → nth l i ≠ nth l (i - 1 : Int)) (fun k => [(0, .o 0), (3, I (k))]) (fun k => [(0, .own 3 57 (l.map arcC)), (1000, .fr (frK Oc W))]) (fun k => l.length - k) 1 ⟨by omega, by omega, fun i h0 h1 => by omega⟩ ?_ ?_
    · exact .slot rfl (.refl _) <| .slot rfl (.refl _) <| .mem rfl <| .mem rfl <| .nil
    · rintro k ⟨hk1, hkl, hinv⟩
      refine Tr.seq ?_
      refine Tr.seq ?_
      refine Tr.region ?_
      refine TrOps.sem (OpSem.move (.inl rfl) rfl) rfl rfl (by decide) ?_
      refine TrOps.sem (OpSem.move (.inl rfl) rfl) rfl rfl (by decide) ?_
      refine TrOps.sem (OpSem.leno rfl rfl rfl es22) rfl rfl (by decide) ?_
      refine TrOps.sem (OpSem.bin rfl rfl rfl blss) rfl rfl (by decide) ?_
      refine TrOps.nil ?_
      refine At.seq ?_
      refine Tr.cond rfl (fun c13 => ?_) (fun c13 => ?_)
      · have hk : k < l.length := by simpa using c13
        refine Tr.skip ?_
        refine At.seq ?_
        refine Tr.seq ?_
        refine Tr.block ?_
        refine Tr.seq ?_
        refine PC.start [] ?_
        refine PC.sem (OpSem.move (.inl rfl) rfl) rfl rfl ?_
        refine PC.sem (OpSem.move (.inl rfl) rfl) rfl rfl ?_
        refine PC.sem (OpSem.idxo rfl rfl rfl rfl es22 (by omega) (by simp; omega)) rfl rfl ?_
        refine PC.sem (OpSem.loadqN (r := arcC (nth l k)) rfl rfl rfl vs57 (arcs_at (by omega) (by omega))) rfl rfl ?_
        refine PC.sem (OpSem.move (.inl rfl) rfl) rfl rfl ?_
        refine PC.sem (OpSem.move (.inl rfl) rfl) rfl rfl ?_
        refine PC.sem (OpSem.bin rfl rfl rfl (bsub (by omega) (by omega))) rfl rfl ?_
        refine PC.sem (OpSem.idxo rfl rfl rfl rfl es22 (by omega) (by simp; omega)) rfl rfl ?_
        refine PC.sem (OpSem.loadqN (r := arcC (nth l (k - 1 : Int))) rfl rfl rfl vs57 (arcs_at (by omega) (by omega))) rfl rfl ?_
        refine PC.done0 mixed (by kernel_rfl) (by kernel_rfl) (by kernel_rfl) (by kernel_rfl) (by kernel_rfl) ?_
        refine TrOps.sem (OpSem.eqS3 rfl rfl rfl io57) rfl rfl (by decide) ?_
        refine TrOps.nil ?_
        refine At.seq ?_
        refine Tr.cond rfl (fun c25 => ?_) (fun c25 => ?_)
        · have hdu : nth l k = nth l (k - 1 : Int) := arc_ext3 (by simpa using c25)
          have hk0 : (ddTo l (k + 1)).length = k := by rw [show ddTo l (k + 1) = ddTo l k from if_pos ⟨by omega, hdu⟩, ddTo_take (by omega) hinv]; simp; omega
          refine Tr.seq ?_
          refine Tr.region ?_
          refine TrOps.sem (OpSem.move (.inl rfl) rfl) rfl rfl (by decide) ?_
          refine TrOps.sem (OpSem.move (.inl rfl) rfl) rfl rfl (by decide) ?_
          refine TrOps.sem (OpSem.sliceoL rfl rfl rfl rfl es22 (by omega) (by simp; omega)) rfl rfl (by decide) ?_
          refine TrOps.sem (OpSem.move (.inr rfl) rfl) rfl rfl (by decide) ?_
          refine TrOps.nil ?_
          refine At.seq ?_
          refine Tr.seq ?_
          refine Tr.seq ?_
          refine Tr.region ?_
          refine TrOps.sem (OpSem.move (.inr rfl) rfl) rfl rfl (by decide) ?_
          refine TrOps.nil ?_
          refine At.seq ?_
          refine Tr.block ?_
          refine Tr.loop (X := Nat) (fun j => k + j + 1 ≤ l.length) (fun j => [(0, .o 0), (3, I (((ddTo l (k + j + 1)).length : Int))), (4, .w 0 3 k (l.length - k)), (5, I (((j + 1 : Nat) : Int)))]) (fun j => [(0, .own 3 57 ((dmTo l k j).map arcC)), (1000, .fr (frK Oc W))]) (fun j => l.length - (k + j + 1)) 0 (by omega) ?_ ?_
          · exact .slot rfl (.refl _) <| .slot rfl (Le.i (by rw [Nat.add_zero, hk0])) <| .slot rfl (Le.of_eq (by simp)) <| .slot rfl (Le.of_eq (by simp)) <| .memEq rfl (by simp [dmTo]) <| .mem rfl <| .nil
          · rintro j hjl
            refine Tr.seq ?_
            refine Tr.seq ?_
            refine Tr.region ?_
            refine TrOps.sem (OpSem.move (.inl rfl) rfl) rfl rfl (by decide) ?_
            refine TrOps.sem (OpSem.move (.inl rfl) rfl) rfl rfl (by decide) ?_
            refine TrOps.sem (OpSem.lenw rfl rfl es22) rfl rfl (by decide) ?_
            refine TrOps.sem (OpSem.bin rfl rfl rfl blss) rfl rfl (by decide) ?_
            refine TrOps.nil ?_
            refine At.seq ?_
            refine Tr.cond rfl (fun c32 => ?_) (fun c32 => ?_)
            · have hj : k + j + 1 < l.length := by simp at c32; omega
              have hdl := dk_len (by omega) hdu (j := j)
              have a1 := dmTo_at (by omega) hdu (i := k + j + 1) (j := j) (by omega)
              have a2 := dmTo_at (by omega) hdu (i := k + j) (j := j) (by omega)
              refine Tr.skip ?_
              refine At.seq ?_
              refine Tr.seq ?_
              refine Tr.block ?_
              refine Tr.seq ?_
              refine PC.start [] ?_
              refine PC.sem (OpSem.move (.inl rfl) rfl) rfl rfl ?_
              refine PC.sem (OpSem.move (.inl rfl) rfl) rfl rfl ?_
              refine PC.sem (OpSem.idxw rfl rfl rfl es22 (by omega) (by omega)) rfl rfl ?_
              refine PC.sem (OpSem.loadqN (r := arcC (nth l (k + j + 1 : Nat))) rfl rfl rfl vs57 (arcs_dm a1 (by rw [dmTo_len]; omega) (by omega))) rfl rfl ?_
              refine PC.sem (OpSem.move (.inl rfl) rfl) rfl rfl ?_
              refine PC.sem (OpSem.move (.inl rfl) rfl) rfl rfl ?_
              refine PC.sem (OpSem.bin rfl rfl rfl (bsub (by omega) (by omega))) rfl rfl ?_
              refine PC.sem (OpSem.idxw rfl rfl rfl es22 (by omega) (by omega)) rfl rfl ?_
              refine PC.sem (OpSem.loadqN (r := arcC (nth l (k + j : Nat))) rfl rfl rfl vs57 (arcs_dm a2 (by rw [dmTo_len]; omega) (by omega))) rfl rfl ?_
              refine PC.done0 mixed (by kernel_rfl) (by kernel_rfl) (by kernel_rfl) (by kernel_rfl) (by kernel_rfl) ?_
              refine TrOps.sem (OpSem.neS3 rfl rfl rfl io57) rfl rfl (by decide) ?_
              refine TrOps.nil ?_
              refine At.seq ?_
              refine Tr.cond rfl (fun c44 => ?_) (fun c44 => ?_)
              · have hnq : nth l (k + j + 1 : Nat) ≠ nth l (k + j : Nat) := fun h => by rw [h] at c44; simp at c44
                refine Tr.seq ?_
                refine Tr.region ?_
                refine TrOps.sem (OpSem.move (.inl rfl) rfl) rfl rfl (by decide) ?_
                refine TrOps.sem (OpSem.move (.inl rfl) rfl) rfl rfl (by decide) ?_
                refine TrOps.sem (OpSem.move (.inl rfl) rfl) rfl rfl (by decide) ?_
                refine TrOps.sem (OpSem.move (.inl rfl) rfl) rfl rfl (by decide) ?_
                refine TrOps.sem (OpSem.idxw rfl rfl rfl es22 (by omega) (by omega)) rfl rfl (by decide) ?_
                refine TrOps.sem (OpSem.loadqN (r := arcC (nth l (k + j + 1 : Nat))) rfl rfl rfl vs57 (arcs_dm a1 (by rw [dmTo_len]; omega) (by omega))) rfl rfl (by decide) ?_
                refine TrOps.sem (OpSem.idxo rfl rfl rfl rfl es22 (by omega) (by simp [dmTo_len]; omega)) rfl rfl (by decide) ?_
                refine TrOps.ofSt0 (OpSt.storeqN (r' := arcC (nth l (k + j + 1 : Nat))) rfl rfl rfl rfl vs57 (by simp [dmTo_len]; omega) rfl) rfl rfl rfl ?_
                refine TrOps.nil ?_
                refine At.seq ?_
                refine Tr.region ?_
                refine TrOps.sem (OpSem.move (.inl rfl) rfl) rfl rfl (by decide) ?_
                refine TrOps.sem (OpSem.bin rfl rfl rfl (badd (by omega) (by omega))) rfl rfl (by decide) ?_
                refine TrOps.sem (OpSem.move (.inr rfl) rfl) rfl rfl (by decide) ?_
                refine TrOps.nil ?_
                refine At.block_normal ?_
                refine At.seq ?_
                refine Tr.region ?_
                refine TrOps.sem (OpSem.move (.inl rfl) rfl) rfl rfl (by decide) ?_
                refine TrOps.sem (OpSem.bin rfl rfl rfl (badd (by omega) (by omega))) rfl rfl (by decide) ?_
                refine TrOps.sem (OpSem.move (.inr rfl) rfl) rfl rfl (by decide) ?_
                refine TrOps.nil ?_
                refine At.again (j + 1) (by omega) ?_ (by omega)
                exact .slot rfl (.refl _) <| .slot rfl (Le.i (by rw [ddTo_step (by omega) hdu, if_neg hnq]; simp)) <| .slot rfl (.refl _) <| .slot rfl (Le.i (by omega)) <| .memEq rfl (by rw [dmTo_s (k := k) (j := j) hnq]; exact congrArg _ (map_set3 (L := dmTo l k j) (n := (ddTo l (k + j + 1)).length) (by rw [dmTo_len (l := l) (k0 := k) (j := j)]; omega)).symm) <| .mem rfl <| .nil
              · have hq : nth l (k + j + 1 : Nat) = nth l (k + j : Nat) := arc_ext3 (by simpa using c44)
                refine Tr.skip ?_
                refine At.block_normal ?_
                refine At.seq ?_
                refine Tr.region ?_
                refine TrOps.sem (OpSem.move (.inl rfl) rfl) rfl rfl (by decide) ?_
                refine TrOps.sem (OpSem.bin rfl rfl rfl (badd (by omega) (by omega))) rfl rfl (by decide) ?_
                refine TrOps.sem (OpSem.move (.inr rfl) rfl) rfl rfl (by decide) ?_
                refine TrOps.nil ?_
                refine At.again (j + 1) (by omega) ?_ (by omega)
                exact .slot rfl (.refl _) <| .slot rfl (Le.i (by rw [ddTo_step (by omega) hdu, if_pos hq])) <| .slot rfl (.refl _) <| .slot rfl (Le.i (by omega)) <| .memEq rfl (by rw [dmTo_e (k := k) (j := j) hq]) <| .mem rfl <| .nil
            · have hj : k + j + 1 = l.length := by simp at c32; omega
              have hdl := dk_len (by omega) hdu (j := j)
              refine Tr.exit ?_
              refine At.pass_exit ?_
              refine At.pass_exit ?_
              refine At.block_same ?_
              refine At.seq ?_
              refine Tr.seq ?_
              refine Tr.region ?_
              refine TrOps.sem (OpSem.move (.inl rfl) rfl) rfl rfl (by decide) ?_
              refine TrOps.sem (OpSem.move (.inl rfl) rfl) rfl rfl (by decide) ?_
              refine TrOps.sem (OpSem.sliceoL rfl rfl rfl rfl es22 (by omega) (by simp [dmTo_len]; omega)) rfl rfl (by decide) ?_
              refine TrOps.ofSt0 (OpSt.clearW rfl rfl es22 ze22 rfl rfl (by decide) (by simp [dmTo_len]; omega)) rfl rfl rfl ?_
              refine TrOps.nil ?_
              refine At.seq ?_
              refine Tr.seq ?_
              refine Tr.region ?_
              refine TrOps.sem (OpSem.move (.inl rfl) rfl) rfl rfl (by decide) ?_
              refine TrOps.sem (OpSem.move (.inl rfl) rfl) rfl rfl (by decide) ?_
              refine TrOps.semM (OpSem.cutO rfl rfl rfl rfl es22 (by omega) (by simp [dmTo_len]; omega) (by simp [dmTo_len]; omega)) rfl rfl (by decide) ?_
              refine TrOps.sem (OpSem.move (.inr rfl) rfl) rfl rfl (by decide) ?_
              refine TrOps.nil ?_
              refine At.seq ?_
              refine Tr.ret ?_
              refine At.block_ret ?_
              refine At.pass_ret ?_
              refine At.pass_ret ?_
              refine At.block_ret ?_
              refine At.pass_ret ?_
              exact At.retW rfl (.tmp rfl <| .nil) rfl rfl (by rw [cut_dd (by omega) hdu hk hinv hj]; exact plain_arcs _) (cut_dd (by omega) hdu hk hinv hj) (fun H => rfl)
        · have hdu : nth l k ≠ nth l (k - 1 : Int) := fun h => by rw [h] at c25; simp at c25
          refine Tr.skip ?_
          refine At.block_normal ?_
          refine At.seq ?_
          refine Tr.region ?_
          refine TrOps.sem (OpSem.move (.inl rfl) rfl) rfl rfl (by decide) ?_
          refine TrOps.sem (OpSem.bin rfl rfl rfl (badd (by omega) (by omega))) rfl rfl (by decide) ?_
          refine TrOps.sem (OpSem.move (.inr rfl) rfl) rfl rfl (by decide) ?_
          refine TrOps.nil ?_
          refine At.again (k + 1) ⟨by omega, by omega, fun i h0 hi => by by_cases h : i = k; (subst h; exact hdu); exact hinv i h0 (by omega)⟩ ?_ (by omega)
          exact .slot rfl (.refl _) <| .slot rfl (Le.i (by omega)) <| .mem rfl <| .mem rfl <| .nil
      · have hk : k = l.length := by simp at c13; omega
        refine Tr.exit ?_
        refine At.pass_exit ?_
        refine At.pass_exit ?_
        refine At.block_same ?_
        refine At.seq ?_
        refine Tr.seq ?_
        refine Tr.region ?_
        refine TrOps.sem (OpSem.move (.inl rfl) rfl) rfl rfl (by decide) ?_
        refine TrOps.sem (OpSem.move (.inr rfl) rfl) rfl rfl (by decide) ?_
        refine TrOps.nil ?_
        refine At.seq ?_
        refine Tr.ret ?_
        exact At.retW rfl (.tmp rfl <| .nil) rfl rfl (by simp [plainB]) (by rw [dd_all (by rw [← hk]; exact hinv)]) (fun H => rfl)

end Go.Proofs.Ythgcnfolgbaemaa
end

section
/- Walks, written by gen.py out of hints. -/


set_option linter.unusedVariables false
set_option linter.unusedSimpArgs false
namespace Go.Proofs.Ythgcnfolgbaemaa
open Go.Eng
set_option maxRecDepth 10000
set_option maxHeartbeats 1000000

theorem abstraction_Sorted_W (l : List Arc) (st lab ini : Int) (gv : Value) (hgv : gv.oneCell' = true) (hne : l ≠ []) (hml : (l.length : Int) < 4611686018427387904) : DoesW Try.prog 35 (fun v => [.agg #[.int .i64 st, .int .i64 lab, v, .int .i64 ini, gv]]) (fun v => .agg #[.int .i64 st, .int .i64 lab, v, .int .i64 ini, gv]) 3 57 (l.map arcC) ((dd (sortL l)).map arcC) := by
  have hsn : sortL l ≠ [] := fun h => hne (List.length_eq_zero_iff.1 (by rw [← sortL_len, h]; rfl))
  refine DoesW.of_body (as_ := [.g [I (st), I (lab), .o 0, I (ini), .d (.v gv)]]) Try.func35 rfl rfl (by simp) Try.call35 (fun _ => rfl) (by intro O H w h1 i x s hx hs; rcases i with _ | i <;> simp at hx hs; subst hx; subst hs; exact repAbsV h1 hgv) (by simpa using hne) (by simpa using dd_ne hsn) (fun O0 Oc W => ?_)
  refine Tr.seq ?_
  refine Tr.region ?_
  refine TrOps.semM (OpSem.box 1 rfl rfl rfl rfl) rfl rfl (by decide) ?_
  refine TrOps.semM (OpSem.alloc 2 rfl zc25 rfl) rfl rfl (by decide) ?_
  refine TrOps.nil ?_
  refine At.seq ?_
  refine Tr.seq ?_
  refine Tr.region ?_
  refine TrOps.sem (OpSem.fieldr rfl rfl fo25_2) rfl rfl (by decide) ?_
  refine TrOps.sem (OpSem.loadb1 rfl rfl rfl vs22 rfl) rfl rfl (by decide) ?_
  refine TrOps.ofSt (OpSt.callWS (s := .t []) (sortArc_W l (by omega)) rfl rfl rfl (fun H => rfl) (plain_arcs _) (fun O H w => .t [] [] rfl (fun i x s h => by simp at h))) rfl rfl rfl (by decide) ?_
  refine TrOps.nil ?_
  refine At.seq ?_
  refine Tr.seq ?_
  refine Tr.region ?_
  refine TrOps.sem (OpSem.fieldr rfl rfl fo25_2) rfl rfl (by decide) ?_
  refine TrOps.sem (OpSem.loadb1 rfl rfl rfl vs22 rfl) rfl rfl (by decide) ?_
  refine TrOps.callW (s := .o 0) (slices_Compact_Arc_Arc_W (sortL l) hsn (by rw [sortL_len]; omega)) rfl rfl rfl (by decide) rfl rfl rfl (fun H => rfl) (plain_arcs _) (fun O H w h1 => .o 0 h1) ?_
  refine TrOps.sem (OpSem.fieldr rfl rfl fo25_2) rfl rfl (by decide) ?_
  refine TrOps.storeb rfl rfl rfl rfl rfl rfl rfl vs22 (by first | decide | simp) ?_
  refine TrOps.nil ?_
  refine At.seq ?_
  refine Tr.seq ?_
  refine Tr.region ?_
  refine TrOps.sem (OpSem.loadbN rfl rfl rfl vs25 (by first | decide | simp)) rfl rfl (by decide) ?_
  refine TrOps.storeb rfl rfl rfl rfl rfl rfl rfl vs25 (by first | decide | simp) ?_
  refine TrOps.nil ?_
  refine At.seq ?_
  refine Tr.ret ?_
  exact At.retW rfl (.cellN rfl rfl vs25 <| .nil) rfl rfl (plain_arcs _) (rfl) (fun H => rfl)

end Go.Proofs.Ythgcnfolgbaemaa
end

section
/- Walks, written by gen.py out of hints. -/


set_option linter.unusedVariables false
set_option linter.unusedSimpArgs false
namespace Go.Proofs.Ythgcnfolgbaemaa
open Go.Eng
set_option maxRecDepth 10000
set_option maxHeartbeats 1000000


open Go.Shelf Go.RowKit Go.Lib
theorem compact_nil (p : Option Addr) (cap : Nat) (w : World) : Calls Try.prog 46 #[.slice p 0 cap] w fun e w' => e = .returned (.slice p 0 cap) ∧ w' = w := by
  go_enter Try.func46, Try.ntmps46
  go_wp2
  go_ret
  exact ⟨by simp, rfl⟩
theorem heap_at (w : World) (A B : Obj) : ((w.alloc A).alloc B).heap[w.heap.size + 1]? = some B := by
  have h := heap_alloc_new (w.alloc A) B
  have e : (w.alloc A).heap.size = w.heap.size + 1 := by show (w.heap.push A).size = _; simp
  rw [e] at h; exact h
theorem sorted_nil (st lab ini : Int) (q : Option Addr) (n c : Nat) (p : Option Addr) (cap : Nat) (w : World) : Calls Try.prog 35 #[.agg #[.int .i64 st, .int .i64 lab, .slice p 0 cap, .int .i64 ini, .slice q n c]] w fun e w' => e = .returned (.agg #[.int .i64 st, .int .i64 lab, .slice p 0 cap, .int .i64 ini, .slice q n c]) ∧ ∃ os, w' = Go.Sort.grow w os := by
  go_enter Try.func35, Try.ntmps35
  go_wp2_with (first | (go_at_call 45; refine (AnyF.slices_SortFunc_none Try.sortArc p cap _ _).mono ?_; rintro e w' ⟨rfl, rfl⟩) | (go_at_call 46; refine (compact_nil p cap _).mono ?_; rintro e w' ⟨rfl, rfl⟩))
  refine bodyPost_ret (results_cell_row rfl _ _ (w.heap.size + 1) 25 _ (0, 0) _ rfl (heap_at _ _ _) rfl rfl (by kernel_rfl)) rfl ?_
  exact ⟨by simp, _, by rw [Go.Sort.alloc_eq_grow, Go.Sort.alloc_eq_grow, Go.Sort.grow_grow]⟩
theorem sorted_all (l : List Arc) (st lab ini : Int) (q : Option Addr) (n c : Nat) (hml : (l.length : Int) < 4611686018427387904) :
    DoesW Try.prog 35 (fun v => [.agg #[.int .i64 st, .int .i64 lab, v, .int .i64 ini, .slice q n c]]) (fun v => .agg #[.int .i64 st, .int .i64 lab, v, .int .i64 ini, .slice q n c]) 3 57 (l.map arcC) ((dd (sortL l)).map arcC) := by
  by_cases hne : l = []
  · subst hne
    refine ⟨Try.call35, fun w v hv => ?_⟩
    have he : ∃ p cap, v = .slice p 0 cap := by
      rcases hv with ⟨rfl, _⟩ | ⟨b, cap, xs, rfl, _⟩
      · exact ⟨_, _, rfl⟩
      · exact ⟨_, _, rfl⟩
    obtain ⟨p, cap, rfl⟩ := he
    refine (sorted_nil st lab ini q n c p cap w).mono ?_
    rintro e w' ⟨rfl, os, rfl⟩
    have hg : ∀ b, b < w.heap.size → (Go.Sort.grow w os).heap[b]? = w.heap[b]? := fun b hb => by
      unfold Go.Sort.grow
      show (w.heap ++ os)[b]? = _
      rw [Array.getElem?_append_left hb]
    refine ⟨_, rfl, ⟨rfl, rfl, rfl, by rw [Go.Sort.size_grow]; omega, fun b hb _ => hg b hb⟩, ?_, .inr (.inl rfl)⟩
    have e0 : dd (sortL ([] : List Arc)) = [] := by simp [sortL, sortBy, dd, ddTo]
    rw [e0]
    rcases hv with h | ⟨b, cap', xs, h1, h2, h3, h4⟩
    · exact .inl h
    · exact .inr ⟨b, cap', xs, h1, h2, by rw [hg b (Array.getElem?_eq_some_iff.1 h3).1]; exact h3, h4⟩
  · exact abstraction_Sorted_W l st lab ini (.slice q n c) rfl hne hml


end Go.Proofs.Ythgcnfolgbaemaa
end

section
/- Walks, written by gen.py out of hints. -/





set_option linter.unusedVariables false
set_option linter.unusedSimpArgs false
namespace Go.Proofs.Ythgcnfolgbaemaa
open Go.Eng
set_option maxRecDepth 10000
set_option maxHeartbeats 1000000



end Go.Proofs.Ythgcnfolgbaemaa
end

section
/- Walks, written by gen.py out of hints. -/




set_option linter.unusedVariables false
set_option linter.unusedSimpArgs false
namespace Go.Proofs.Ythgcnfolgbaemaa
open Go.Eng
set_option maxRecDepth 10000
set_option maxHeartbeats 1000000

theorem Q_Abstractions_does (a b : Abs) : Does Try.prog false 18 [absS a, absS b] (Bo (decide (a = b))) := by
  refine Does.of_body Try.func18 rfl rfl (by simp) Try.call18 (fun w0 O0 => ?_)
  refine Tr.lenG (n := 0) (i := 2) rfl rfl (fun len0_2 => ?_)
  refine Tr.lenG (n := 0) (i := 4) rfl rfl (fun len0_4 => ?_)
  refine Tr.lenG (n := 1) (i := 2) rfl rfl (fun len1_2 => ?_)
  refine Tr.lenG (n := 1) (i := 4) rfl rfl (fun len1_4 => ?_)
  refine Tr.seq ?_
  refine Tr.region ?_
  refine TrOps.semM (OpSem.box 2 rfl rfl rfl rfl) rfl rfl (by decide) ?_
  refine TrOps.semM (OpSem.box 3 rfl rfl rfl rfl) rfl rfl (by decide) ?_
  refine TrOps.sem (OpSem.move (.inr rfl) rfl) rfl rfl (by decide) ?_
  refine TrOps.nil ?_
  refine At.seq ?_
  refine Tr.seq ?_
  refine Tr.seq ?_
  refine Tr.region ?_
  refine TrOps.sem (OpSem.fieldr rfl rfl fo25_0) rfl rfl (by decide) ?_
  refine TrOps.sem (OpSem.loadb1 rfl rfl rfl vs3 rfl) rfl rfl (by decide) ?_
  refine TrOps.sem (OpSem.fieldr rfl rfl fo25_0) rfl rfl (by decide) ?_
  refine TrOps.sem (OpSem.loadb1 rfl rfl rfl vs3 rfl) rfl rfl (by decide) ?_
  refine TrOps.sem (OpSem.bin rfl rfl rfl bneq) rfl rfl (by decide) ?_
  refine TrOps.sem (OpSem.move (.inl rfl) rfl) rfl rfl (by decide) ?_
  refine TrOps.split (n := 11) rfl (fun c11 => ?_) (fun c11 => ?_)
  · refine TrOps.gF rfl rfl rfl rfl c11 rfl (by decide) ?_
    refine TrOps.gF rfl rfl rfl rfl c11 rfl (by decide) ?_
    refine TrOps.gF rfl rfl rfl rfl c11 rfl (by decide) ?_
    refine TrOps.gF rfl rfl rfl rfl c11 rfl (by decide) ?_
    refine TrOps.gF rfl rfl rfl rfl c11 rfl (by decide) ?_
    refine TrOps.sem (OpSem.pickT rfl rfl c11 rfl) rfl rfl (by decide) ?_
    refine TrOps.sem (OpSem.move (.inl rfl) rfl) rfl rfl (by decide) ?_
    refine TrOps.gF rfl rfl rfl rfl rfl rfl (by decide) ?_
    refine TrOps.gF rfl rfl rfl rfl rfl rfl (by decide) ?_
    refine TrOps.gF rfl rfl rfl rfl rfl rfl (by decide) ?_
    refine TrOps.gF rfl rfl rfl rfl rfl rfl (by decide) ?_
    refine TrOps.gF rfl rfl rfl rfl rfl rfl (by decide) ?_
    refine TrOps.sem (OpSem.pickT rfl rfl rfl rfl) rfl rfl (by decide) ?_
    refine TrOps.sem (OpSem.move (.inl rfl) rfl) rfl rfl (by decide) ?_
    refine TrOps.gF rfl rfl rfl rfl rfl rfl (by decide) ?_
    refine TrOps.gF rfl rfl rfl rfl rfl rfl (by decide) ?_
    refine TrOps.gF rfl rfl rfl rfl rfl rfl (by decide) ?_
    refine TrOps.gF rfl rfl rfl rfl rfl rfl (by decide) ?_
    refine TrOps.gF rfl rfl rfl rfl rfl rfl (by decide) ?_
    refine TrOps.gF rfl rfl rfl rfl rfl rfl (by decide) ?_
    refine TrOps.sem (OpSem.pickT rfl rfl rfl rfl) rfl rfl (by decide) ?_
    refine TrOps.sem (OpSem.move (.inl rfl) rfl) rfl rfl (by decide) ?_
    refine TrOps.gF rfl rfl rfl rfl rfl rfl (by decide) ?_
    refine TrOps.gF rfl rfl rfl rfl rfl rfl (by decide) ?_
    refine TrOps.gF rfl rfl rfl rfl rfl rfl (by decide) ?_
    refine TrOps.gF rfl rfl rfl rfl rfl rfl (by decide) ?_
    refine TrOps.gF rfl rfl rfl rfl rfl rfl (by decide) ?_
    refine TrOps.gF rfl rfl rfl rfl rfl rfl (by decide) ?_
    refine TrOps.gF rfl rfl rfl rfl rfl rfl (by decide) ?_
    refine TrOps.sem (OpSem.pickT rfl rfl rfl rfl) rfl rfl (by decide) ?_
    refine TrOps.nil ?_
    refine At.seq ?_
    refine Tr.condT rfl rfl ?_
    refine Tr.seq ?_
    refine Tr.region ?_
    refine TrOps.sem (OpSem.move (.inr rfl) rfl) rfl rfl (by decide) ?_
    refine TrOps.nil ?_
    refine At.seq ?_
    refine Tr.ret ?_
    refine At.pass_ret ?_
    exact At.ret rfl (.tmp rfl <| .nil) rfl (Le.bo (decide_eq_false (fun e => by subst e; simp at c11)).symm)
  · refine TrOps.gT rfl rfl rfl rfl c11 ?_
    refine TrOps.sem (OpSem.fieldr rfl rfl fo25_1) rfl rfl (by decide) ?_
    refine TrOps.gT rfl rfl rfl rfl c11 ?_
    refine TrOps.sem (OpSem.loadb1 rfl rfl rfl vs3 rfl) rfl rfl (by decide) ?_
    refine TrOps.gT rfl rfl rfl rfl c11 ?_
    refine TrOps.sem (OpSem.fieldr rfl rfl fo25_1) rfl rfl (by decide) ?_
    refine TrOps.gT rfl rfl rfl rfl c11 ?_
    refine TrOps.sem (OpSem.loadb1 rfl rfl rfl vs3 rfl) rfl rfl (by decide) ?_
    refine TrOps.gT rfl rfl rfl rfl c11 ?_
    refine TrOps.sem (OpSem.bin rfl rfl rfl bneq) rfl rfl (by decide) ?_
    refine TrOps.sem (OpSem.pickF rfl rfl c11 rfl) rfl rfl (by decide) ?_
    refine TrOps.sem (OpSem.move (.inl rfl) rfl) rfl rfl (by decide) ?_
    refine TrOps.split (n := 18) rfl (fun c18 => ?_) (fun c18 => ?_)
    · refine TrOps.gF rfl rfl rfl rfl c18 rfl (by decide) ?_
      refine TrOps.gF rfl rfl rfl rfl c18 rfl (by decide) ?_
      refine TrOps.gF rfl rfl rfl rfl c18 rfl (by decide) ?_
      refine TrOps.gF rfl rfl rfl rfl c18 rfl (by decide) ?_
      refine TrOps.gF rfl rfl rfl rfl c18 rfl (by decide) ?_
      refine TrOps.sem (OpSem.pickT rfl rfl c18 rfl) rfl rfl (by decide) ?_
      refine TrOps.sem (OpSem.move (.inl rfl) rfl) rfl rfl (by decide) ?_
      refine TrOps.gF rfl rfl rfl rfl rfl rfl (by decide) ?_
      refine TrOps.gF rfl rfl rfl rfl rfl rfl (by decide) ?_
      refine TrOps.gF rfl rfl rfl rfl rfl rfl (by decide) ?_
      refine TrOps.gF rfl rfl rfl rfl rfl rfl (by decide) ?_
      refine TrOps.gF rfl rfl rfl rfl rfl rfl (by decide) ?_
      refine TrOps.gF rfl rfl rfl rfl rfl rfl (by decide) ?_
      refine TrOps.sem (OpSem.pickT rfl rfl rfl rfl) rfl rfl (by decide) ?_
      refine TrOps.sem (OpSem.move (.inl rfl) rfl) rfl rfl (by decide) ?_
      refine TrOps.gF rfl rfl rfl rfl rfl rfl (by decide) ?_
      refine TrOps.gF rfl rfl rfl rfl rfl rfl (by decide) ?_
      refine TrOps.gF rfl rfl rfl rfl rfl rfl (by decide) ?_
      refine TrOps.gF rfl rfl rfl rfl rfl rfl (by decide) ?_
      refine TrOps.gF rfl rfl rfl rfl rfl rfl (by decide) ?_
      refine TrOps.gF rfl rfl rfl rfl rfl rfl (by decide) ?_
      refine TrOps.gF rfl rfl rfl rfl rfl rfl (by decide) ?_
      refine TrOps.sem (OpSem.pickT rfl rfl rfl rfl) rfl rfl (by decide) ?_
      refine TrOps.nil ?_
      refine At.seq ?_
      refine Tr.condT rfl rfl ?_
      refine Tr.seq ?_
      refine Tr.region ?_
      refine TrOps.sem (OpSem.move (.inr rfl) rfl) rfl rfl (by decide) ?_
      refine TrOps.nil ?_
      refine At.seq ?_
      refine Tr.ret ?_
      refine At.pass_ret ?_
      exact At.ret rfl (.tmp rfl <| .nil) rfl (Le.bo (decide_eq_false (fun e => by subst e; simp at c18)).symm)
    · refine TrOps.gT rfl rfl rfl rfl c18 ?_
      refine TrOps.sem (OpSem.fieldr rfl rfl fo25_3) rfl rfl (by decide) ?_
      refine TrOps.gT rfl rfl rfl rfl c18 ?_
      refine TrOps.sem (OpSem.loadb1 rfl rfl rfl vs3 rfl) rfl rfl (by decide) ?_
      refine TrOps.gT rfl rfl rfl rfl c18 ?_
      refine TrOps.sem (OpSem.fieldr rfl rfl fo25_3) rfl rfl (by decide) ?_
      refine TrOps.gT rfl rfl rfl rfl c18 ?_
      refine TrOps.sem (OpSem.loadb1 rfl rfl rfl vs3 rfl) rfl rfl (by decide) ?_
      refine TrOps.gT rfl rfl rfl rfl c18 ?_
      refine TrOps.sem (OpSem.bin rfl rfl rfl bneq) rfl rfl (by decide) ?_
      refine TrOps.sem (OpSem.pickF rfl rfl c18 rfl) rfl rfl (by decide) ?_
      refine TrOps.sem (OpSem.move (.inl rfl) rfl) rfl rfl (by decide) ?_
      refine TrOps.split (n := 25) rfl (fun c25 => ?_) (fun c25 => ?_)
      · refine TrOps.gF rfl rfl rfl rfl c25 rfl (by decide) ?_
        refine TrOps.gF rfl rfl rfl rfl c25 rfl (by decide) ?_
        refine TrOps.gF rfl rfl rfl rfl c25 rfl (by decide) ?_
        refine TrOps.gF rfl rfl rfl rfl c25 rfl (by decide) ?_
        refine TrOps.gF rfl rfl rfl rfl c25 rfl (by decide) ?_
        refine TrOps.gF rfl rfl rfl rfl c25 rfl (by decide) ?_
        refine TrOps.sem (OpSem.pickT rfl rfl c25 rfl) rfl rfl (by decide) ?_
        refine TrOps.sem (OpSem.move (.inl rfl) rfl) rfl rfl (by decide) ?_
        refine TrOps.gF rfl rfl rfl rfl rfl rfl (by decide) ?_
        refine TrOps.gF rfl rfl rfl rfl rfl rfl (by decide) ?_
        refine TrOps.gF rfl rfl rfl rfl rfl rfl (by decide) ?_
        refine TrOps.gF rfl rfl rfl rfl rfl rfl (by decide) ?_
        refine TrOps.gF rfl rfl rfl rfl rfl rfl (by decide) ?_
        refine TrOps.gF rfl rfl rfl rfl rfl rfl (by decide) ?_
        refine TrOps.gF rfl rfl rfl rfl rfl rfl (by decide) ?_
        refine TrOps.sem (OpSem.pickT rfl rfl rfl rfl) rfl rfl (by decide) ?_
        refine TrOps.nil ?_
        refine At.seq ?_
        refine Tr.condT rfl rfl ?_
        refine Tr.seq ?_
        refine Tr.region ?_
        refine TrOps.sem (OpSem.move (.inr rfl) rfl) rfl rfl (by decide) ?_
        refine TrOps.nil ?_
        refine At.seq ?_
        refine Tr.ret ?_
        refine At.pass_ret ?_
        exact At.ret rfl (.tmp rfl <| .nil) rfl (Le.bo (decide_eq_false (fun e => by subst e; simp at c25)).symm)
      · refine TrOps.gT rfl rfl rfl rfl c25 ?_
        refine TrOps.sem (OpSem.fieldr rfl rfl fo25_4) rfl rfl (by decide) ?_
        refine TrOps.gT rfl rfl rfl rfl c25 ?_
        refine TrOps.sem (OpSem.loadb1 rfl rfl rfl vs23 rfl) rfl rfl (by decide) ?_
        refine TrOps.gT rfl rfl rfl rfl c25 ?_
        refine TrOps.sem (OpSem.fieldr rfl rfl fo25_4) rfl rfl (by decide) ?_
        refine TrOps.gT rfl rfl rfl rfl c25 ?_
        refine TrOps.sem (OpSem.loadb1 rfl rfl rfl vs23 rfl) rfl rfl (by decide) ?_
        refine TrOps.gT rfl rfl rfl rfl c25 ?_
        refine TrOps.sem (OpSem.call0 (R_Ints_does a.goals b.goals) rfl rfl rfl rfl (Les.refl _)) rfl rfl (by decide) ?_
        refine TrOps.gT rfl rfl rfl rfl c25 ?_
        refine TrOps.sem (OpSem.not rfl rfl) rfl rfl (by decide) ?_
        refine TrOps.sem (OpSem.pickF rfl rfl c25 rfl) rfl rfl (by decide) ?_
        refine TrOps.sem (OpSem.move (.inl rfl) rfl) rfl rfl (by decide) ?_
        refine TrOps.split (n := 33) rfl (fun c33 => ?_) (fun c33 => ?_)
        · refine TrOps.gF rfl rfl rfl rfl c33 rfl (by decide) ?_
          refine TrOps.gF rfl rfl rfl rfl c33 rfl (by decide) ?_
          refine TrOps.gF rfl rfl rfl rfl c33 rfl (by decide) ?_
          refine TrOps.gF rfl rfl rfl rfl c33 rfl (by decide) ?_
          refine TrOps.gF rfl rfl rfl rfl c33 rfl (by decide) ?_
          refine TrOps.gF rfl rfl rfl rfl c33 rfl (by decide) ?_
          refine TrOps.gF rfl rfl rfl rfl c33 rfl (by decide) ?_
          refine TrOps.sem (OpSem.pickT rfl rfl c33 rfl) rfl rfl (by decide) ?_
          refine TrOps.nil ?_
          refine At.seq ?_
          refine Tr.condT rfl rfl ?_
          refine Tr.seq ?_
          refine Tr.region ?_
          refine TrOps.sem (OpSem.move (.inr rfl) rfl) rfl rfl (by decide) ?_
          refine TrOps.nil ?_
          refine At.seq ?_
          refine Tr.ret ?_
          refine At.pass_ret ?_
          exact At.ret rfl (.tmp rfl <| .nil) rfl (Le.bo (decide_eq_false (fun e => by subst e; simp at c33)).symm)
        · refine TrOps.gT rfl rfl rfl rfl c33 ?_
          refine TrOps.sem (OpSem.fieldr rfl rfl fo25_2) rfl rfl (by decide) ?_
          refine TrOps.gT rfl rfl rfl rfl c33 ?_
          refine TrOps.sem (OpSem.loadb1 rfl rfl rfl vs22 rfl) rfl rfl (by decide) ?_
          refine TrOps.gT rfl rfl rfl rfl c33 ?_
          refine TrOps.sem (OpSem.lenL rfl rfl es22) rfl rfl (by decide) ?_
          refine TrOps.gT rfl rfl rfl rfl c33 ?_
          refine TrOps.sem (OpSem.fieldr rfl rfl fo25_2) rfl rfl (by decide) ?_
          refine TrOps.gT rfl rfl rfl rfl c33 ?_
          refine TrOps.sem (OpSem.loadb1 rfl rfl rfl vs22 rfl) rfl rfl (by decide) ?_
          refine TrOps.gT rfl rfl rfl rfl c33 ?_
          refine TrOps.sem (OpSem.lenL rfl rfl es22) rfl rfl (by decide) ?_
          refine TrOps.gT rfl rfl rfl rfl c33 ?_
          refine TrOps.sem (OpSem.bin rfl rfl rfl bneq) rfl rfl (by decide) ?_
          refine TrOps.sem (OpSem.pickF rfl rfl c33 rfl) rfl rfl (by decide) ?_
          refine TrOps.nil ?_
          refine At.seq ?_
          refine Tr.cond rfl (fun c41 => ?_) (fun c41 => ?_)
          · refine Tr.seq ?_
            refine Tr.region ?_
            refine TrOps.sem (OpSem.move (.inr rfl) rfl) rfl rfl (by decide) ?_
            refine TrOps.nil ?_
            refine At.seq ?_
            refine Tr.ret ?_
            refine At.pass_ret ?_
            exact At.ret rfl (.tmp rfl <| .nil) rfl (Le.bo (decide_eq_false (fun e => by subst e; simp at c41)).symm)
          · have hl : a.arcs.length = b.arcs.length := by simp at c41; omega
            refine Tr.skip ?_
            refine At.seq ?_
            refine Tr.seq ?_
            refine Tr.seq ?_
            refine Tr.region ?_
            refine TrOps.sem (OpSem.move (.inr rfl) rfl) rfl rfl (by decide) ?_
            refine TrOps.nil ?_
            refine At.seq ?_
            refine Tr.block ?_
            refine Tr.loop (X := Nat) (fun k => k ≤ a.arcs.length ∧ ∀ i : Nat, i < k → nth a.arcs i = nth b.arcs i) (fun k => [(2, .r 2 0), (3, .r 3 0), (5, I (k))]) (fun k => [(2, .box [I (a.states), I (a.labels), .d (arcsD a.arcs), I (a.init), .d (ints a.goals)]), (3, .box [I (b.states), I (b.labels), .d (arcsD b.arcs), I (b.init), .d (ints b.goals)])]) (fun k => a.arcs.length - k) 0 ⟨by omega, by simp⟩ ?_ ?_
            · exact .slot rfl (.refl _) <| .slot rfl (.refl _) <| .slot rfl (Le.of_eq (by simp)) <| .mem rfl <| .mem rfl <| .nil
            · rintro k ⟨hkl, hinv⟩
              refine Tr.seq ?_
              refine Tr.seq ?_
              refine Tr.region ?_
              refine TrOps.sem (OpSem.move (.inl rfl) rfl) rfl rfl (by decide) ?_
              refine TrOps.sem (OpSem.fieldr rfl rfl fo25_2) rfl rfl (by decide) ?_
              refine TrOps.sem (OpSem.loadb1 rfl rfl rfl vs22 rfl) rfl rfl (by decide) ?_
              refine TrOps.sem (OpSem.lenL rfl rfl es22) rfl rfl (by decide) ?_
              refine TrOps.sem (OpSem.bin rfl rfl rfl blss) rfl rfl (by decide) ?_
              refine TrOps.nil ?_
              refine At.seq ?_
              refine Tr.cond rfl (fun c46 => ?_) (fun c46 => ?_)
              · have hk : k < a.arcs.length := by simpa using c46
                refine Tr.skip ?_
                refine At.seq ?_
                refine Tr.seq ?_
                refine Tr.block ?_
                refine Tr.seq ?_
                refine PC.start [] ?_
                refine PC.sem (OpSem.fieldr rfl rfl fo25_2) rfl rfl ?_
                refine PC.sem (OpSem.loadb1 rfl rfl rfl vs22 rfl) rfl rfl ?_
                refine PC.sem (OpSem.move (.inl rfl) rfl) rfl rfl ?_
                refine PC.sem (OpSem.idxL rfl rfl rfl es22 (by omega) (by omega)) rfl rfl ?_
                refine PC.sem (OpSem.loadN rfl rfl vs57 (by first | decide | simp) rfl) rfl rfl ?_
                refine PC.sem (OpSem.fieldr rfl rfl fo25_2) rfl rfl ?_
                refine PC.sem (OpSem.loadb1 rfl rfl rfl vs22 rfl) rfl rfl ?_
                refine PC.sem (OpSem.move (.inl rfl) rfl) rfl rfl ?_
                refine PC.sem (OpSem.idxL rfl rfl rfl es22 (by omega) (by omega)) rfl rfl ?_
                refine PC.sem (OpSem.loadN rfl rfl vs57 (by first | decide | simp) rfl) rfl rfl ?_
                refine PC.done0 mixed (by kernel_rfl) (by kernel_rfl) (by kernel_rfl) (by kernel_rfl) (by kernel_rfl) ?_
                refine TrOps.sem (OpSem.neS3 rfl rfl rfl io57) rfl rfl (by decide) ?_
                refine TrOps.nil ?_
                refine At.seq ?_
                refine Tr.cond rfl (fun c59 => ?_) (fun c59 => ?_)
                · refine Tr.seq ?_
                  refine Tr.region ?_
                  refine TrOps.sem (OpSem.move (.inr rfl) rfl) rfl rfl (by decide) ?_
                  refine TrOps.nil ?_
                  refine At.seq ?_
                  refine Tr.ret ?_
                  refine At.block_ret ?_
                  refine At.pass_ret ?_
                  refine At.pass_ret ?_
                  refine At.block_ret ?_
                  refine At.pass_ret ?_
                  exact At.ret rfl (.tmp rfl <| .nil) rfl (Le.bo (decide_eq_false (fun e => by subst e; simp at c59)).symm)
                · have hb : nth a.arcs k = nth b.arcs k := arc_ext (by simp at c59; exact c59.1) (by simp at c59; exact c59.2.1) (by simp at c59; exact c59.2.2)
                  refine Tr.skip ?_
                  refine At.block_normal ?_
                  refine At.seq ?_
                  refine Tr.region ?_
                  refine TrOps.sem (OpSem.move (.inl rfl) rfl) rfl rfl (by decide) ?_
                  refine TrOps.sem (OpSem.bin rfl rfl rfl (badd (by omega) (by omega))) rfl rfl (by decide) ?_
                  refine TrOps.sem (OpSem.move (.inr rfl) rfl) rfl rfl (by decide) ?_
                  refine TrOps.nil ?_
                  refine At.again (k + 1) ⟨by omega, all_succ hinv hb⟩ ?_ (by omega)
                  exact .slot rfl (.refl _) <| .slot rfl (.refl _) <| .slot rfl (Le.of_eq (by simp)) <| .mem rfl <| .mem rfl <| .nil
              · have hk : k = a.arcs.length := by simp at c46; omega
                refine Tr.exit ?_
                refine At.pass_exit ?_
                refine At.pass_exit ?_
                refine At.block_same ?_
                refine At.seq ?_
                refine Tr.seq ?_
                refine Tr.region ?_
                refine TrOps.sem (OpSem.move (.inr rfl) rfl) rfl rfl (by decide) ?_
                refine TrOps.nil ?_
                refine At.seq ?_
                refine Tr.ret ?_
                exact At.ret rfl (.tmp rfl <| .nil) rfl (Le.bo (decide_eq_true (abs_ext (by simpa using c11) (by simpa using c18) (ext_get (by simp at c41; omega) (by subst hk; exact hinv)) (by simpa using c25) (by simpa using c33))).symm)

end Go.Proofs.Ythgcnfolgbaemaa
end

section
/- Products of abstractions. -/

set_option linter.unusedVariables false
set_option linter.unusedSimpArgs false
set_option linter.unusedSectionVars false
namespace Go.Eng
open Go
/-! ### Lists -/
theorem tk_s {α : Type} [Inhabited α] {l : List α} {k : Nat} (hk : k < l.length) : l.take (k + 1) = l.take k ++ [nth l k] := by
  rw [List.take_add_one, List.getElem?_eq_getElem hk, nth_eq hk]; rfl
/-! ### The program's product -/
def prA (n : Int) (x y : Arc) : Arc := ⟨x.fr * n + y.fr, x.lab, x.to * n + y.to⟩
def timJ (b : Abs) (x : Arc) (j : Nat) : List Arc := ((b.arcs.take j).filter fun y => decide (x.lab = y.lab)).map (prA b.states x)
def timI (a b : Abs) (i : Nat) : List Arc := (a.arcs.take i).flatMap fun x => timJ b x b.arcs.length
def timG (a b : Abs) (x : Int) (j : Nat) : List Int := (b.goals.take j).map fun y => x * b.states + y
def timH (a b : Abs) (i : Nat) : List Int := (a.goals.take i).flatMap fun x => timG a b x b.goals.length
def timA (a b : Abs) : Abs := ⟨a.states * b.states, a.labels, dd (sortL (timI a b a.arcs.length)), a.init * b.states + b.init, timH a b a.goals.length⟩
section
variable {a b : Abs} (ha : AbsOk a) (hb : AbsOk b)
include ha hb
end
/-! ### Faults -/
def prdF1 (a b : Abs) : Int × Int := if absFault a ≠ (0, 0) then absFault a else if absFault b ≠ (0, 0) then ((absFault b).1, -5) else (0, 0)
def prdF2 (a b : Abs) : Int × Int := if prdF1 a b ≠ (0, 0) then prdF1 a b else if a.labels ≠ b.labels then (9, -6) else (0, 0)
def prdF3 (a b : Abs) : Int × Int := if prdF2 a b ≠ (0, 0) then prdF2 a b else if 60 < a.states * b.states then (10, -7) else (0, 0)
def prdF (a b : Abs) : Int × Int := if prdF3 a b ≠ (0, 0) then prdF3 a b else if 400 < (timA a b).arcs.length then (10, -7) else (0, 0)
def prdR (a b : Abs) : Abs := if prdF a b = (0, 0) then timA a b else absZ
theorem absFault_c {a : Abs} (h : (absFault a).1 = 0) : absFault a = (0, 0) := (absFault_ok h).2
/-- What a product needs. -/
structure PrdP (a b : Abs) : Prop where
  oa : AbsOk a
  ob : AbsOk b
  lab : a.labels = b.labels
  st : a.states * b.states ≤ 60
/-! ### The reference's product -/
def rK (a b : Abs) (n lab : Int) (i k : Nat) : List Arc := if (nth a.arcs i).fr = n / b.states ∧ (nth a.arcs i).lab = lab then ((b.arcs.take k).filter fun y => decide (y.fr = n % b.states ∧ y.lab = lab)).map (fun y => ⟨n, lab, (nth a.arcs i).to * b.states + y.to⟩) else []
def rI (a b : Abs) (n lab : Int) (i : Nat) : List Arc := (List.range i).flatMap fun i' => rK a b n lab i' b.arcs.length
def rL (a b : Abs) (n : Int) (l : Nat) : List Arc := (List.range l).flatMap fun (lab : Nat) => rI a b n lab a.arcs.length
def rN (a b : Abs) (n : Nat) : List Arc := (List.range n).flatMap fun (n' : Nat) => rL a b n' a.labels.toNat
section
variable {a b : Abs} (h : PrdP a b)
include h
end
def gN (a b : Abs) (n : Nat) : List Int := ((List.range n).map fun n : Nat => (n : Int)).filter (fun n => decide (n / b.states ∈ a.goals ∧ n % b.states ∈ b.goals))
/-! ### Distances in products -/
theorem tri_mem {a : Abs} {c : List Int} (ha : AbsOk a) (hc : CostFor a c) {x : Arc} (hx : x ∈ a.arcs) : nth (distL a c) x.fr ≤ nth (distL a c) x.to + nth c x.lab := by
  obtain ⟨i, hi, rfl⟩ := List.getElem_of_mem hx
  have := distL_tri ha hc hi
  rwa [nth_eq hi] at this
section
variable {a b : Abs} {c : List Int} (h : PrdP a b)
include h
theorem PrdP.symm : PrdP b a := ⟨h.ob, h.oa, h.lab.symm, by rw [Int.mul_comm]; exact h.st⟩
end
/-! ### Exact label reduction -/
/-! ### The product of all variables -/
def prodA (m : Multi) : Nat → Abs
  | 0 => atomA m 0
  | k + 1 => timA (prodA m k) (atomA m (k + 1 : Nat))
def DetP (a : Abs) : Prop := ∀ x y, x ∈ a.arcs → y ∈ a.arcs → x.fr = y.fr → x.lab = y.lab → x = y
section
variable {m : Multi} (hv : Valid m)
include hv
/-- What the product of the first variables is. -/
structure PrdI (k : Nat) (a : Abs) : Prop where
  ok : a.arcs.length ≤ 400 → AbsOk a
  st : a.states = ranksTo m.sizes (k + 1)
  lab : a.labels = m.ops.length
  ini : a.init = rankTo m.sizes m.init (k + 1)
  goal : ∀ x, x ∈ a.goals ↔ ∃ s, StateP m.sizes s ∧ x = rankTo m.sizes s (k + 1) ∧ ∀ v : Nat, v < k + 1 → findA m.goal v (nth s v) = nth s v
  arc : ∀ z, z ∈ a.arcs ↔ ∃ s, StateP m.sizes s ∧ ∃ j : Nat, j < m.ops.length ∧ (∀ v : Nat, v < k + 1 → findA (nth m.ops j).pre v (nth s v) = nth s v) ∧ z = ⟨rankTo m.sizes s (k + 1), j, rankTo m.sizes (nextS s (nth m.ops j).post) (k + 1)⟩
  det : DetP a
  num : (a.arcs.length : Int) ≤ ranksTo m.sizes (k + 1) * m.ops.length
end
/-- The products so far. -/
def pOk (m : Multi) (v : Nat) : Prop := ∀ j : Nat, j < v → (prodA m j).arcs.length ≤ 400
instance (m : Multi) (v : Nat) : Decidable (pOk m v) := by unfold pOk; infer_instance
def pF (m : Multi) (v : Nat) : Int × Int := if pOk m v then (0, 0) else (10, -7)
def pR (m : Multi) (v : Nat) : Abs := if pOk m v then prodA m (v - 1) else absZ
section
variable {m : Multi} (hval : validate m = (0, 0)) (hr : ranks m.sizes ≤ 60)
include hval hr
end
end Go.Eng
end

section
/- The engine, part 24: a region whose order is open, where several operations may come late. -/

set_option linter.unusedSimpArgs false
set_option linter.unnecessarySimpa false
set_option linter.unusedVariables false
namespace Go.Eng
open Go.RowKit (Below)

/-- e2 is e without the slots ds. -/
inductive DropRs (ds : List Nat) : Env → Env → Prop
  | nil : DropRs ds [] []
  | hit {n : Nat} {s : S} {e e2 : Env} (h : (ds.any fun d => Nat.beq n d) = true) : DropRs ds e e2 → DropRs ds ((n, s) :: e) e2
  | miss {n : Nat} {s : S} {e e2 : Env} (h : (ds.any fun d => Nat.beq n d) = false) : DropRs ds e e2 → DropRs ds ((n, s) :: e) ((n, s) :: e2)
theorem DropRs.look {ds : List Nat} {e e2 : Env} (hd : DropRs ds e e2) : ∀ {n : Nat} {s : S}, look e2 n = some s → n ∉ ds ∧ look e n = some s := by
  induction hd with
  | nil => intro n s h; simp [Eng.look] at h
  | @hit m t e e2 h _ ih =>
    intro n s hl
    obtain ⟨h1, h2⟩ := ih hl
    refine ⟨h1, ?_⟩
    simp only [Eng.look]
    have : Nat.beq m n = false := by
      cases hb : Nat.beq m n with
      | false => rfl
      | true =>
        rw [Nat.eq_of_beq_eq_true hb] at h
        obtain ⟨d, hd, he⟩ := List.any_eq_true.1 h
        rw [Nat.eq_of_beq_eq_true he] at h1
        exact absurd hd h1
    rw [this]; exact h2
  | @miss m t e e2 h _ ih =>
    intro n s hl
    rcases look_cons hl with ⟨rfl, rfl⟩ | ⟨hne, hl⟩
    · refine ⟨fun hm => ?_, look_cons_same _ _ _⟩
      have : (ds.any fun d => Nat.beq n d) = true := List.any_eq_true.2 ⟨n, hm, by simp⟩
      rw [h] at this; cases this
    · obtain ⟨h1, h2⟩ := ih hl
      refine ⟨h1, ?_⟩
      simp only [Eng.look]
      have : Nat.beq m n = false := by cases hb : Nat.beq m n with
        | false => rfl
        | true => exact (hne (Nat.eq_of_beq_eq_true hb).symm).elim
      rw [this]; exact h2

section
variable {P : Program} {N : Nat} {w0 : World} {O0 : Nat → Nat} {ops : Array Oper} {Q : Post} {e0 e : Env} {M0 M : Mem} {hs : List Nat} {o : Oper}

def nrm (R : Act → World → Prop) : Post := fun x a w => x = .normal ∧ R a w
theorem Oper.wp_nrm {K R : Act → World → Prop} {a : Act} {w : World} (h : o.wp P a w K (nrm R)) (Q : Post) : o.wp P a w K Q := by
  unfold Oper.wp at *
  generalize (execOp a.eval o).run P w = r at *
  cases r with
  | ok n w' =>
    cases n <;> simp only [Oper.upon] at h ⊢ <;> first
      | exact h
      | exact Calls.mono h (fun e w'' he => by
          cases e with
          | returned v => exact he
          | panicked c => exact nomatch he.1
          | outgrown => obtain ⟨_, _, h, _⟩ := he; exact nomatch h)
  | halt x w' => cases x <;> simp only [Oper.upon] at h ⊢ <;> first | exact nomatch h.1 | exact h
theorem wp1 {R : Act → World → Prop} {a : Act} {w : World} {i : Nat} (ho : ops[i]? = some o) (h : wpList P ops (nrm R) [o] a w) : wpOp P ops Q i R a w := by
  unfold wpOp
  simp only [ho]
  unfold wpList at h
  split
  · rename_i hw
    rw [if_pos hw] at h
    rcases h with h | ⟨_, _, _, h, _⟩
    · exact .inl (Oper.wp_mono (fun a w h => h.2) (Oper.wp_nrm h Q))
    · exact nomatch h
  · rename_i hw
    rw [if_neg hw] at h
    exact h.2

/-- The operations of a set come in any order, each behind what it reads; then the tail. -/
def wpSet (P : Program) (ops : Array Oper) (Q : Post) (tail : List Oper) : Nat → List Nat → Act → World → Prop
  | 0, _, a, w => wpList P ops Q tail a w
  | n + 1, F, a, w => ∀ i, i ∈ F → (∀ j, j ∈ F → prec ops 9 i j = false) → wpOp P ops Q i (wpSet P ops Q tail n (F.erase i)) a w
def TrSet (P : Program) (N : Nat) (w0 : World) (O0 : Nat → Nat) (ops : Array Oper) (Q : Post) (tail : List Oper) (n : Nat) (F : List Nat) (e : Env) (M : Mem) : Prop :=
  ∀ (O : Nat → Nat) (H : Nat → Value) (a : Act) (w : World), St N w0 O0 e M O H a w → wpSet P ops Q tail n F a w
def TrI (P : Program) (N : Nat) (w0 : World) (O0 : Nat → Nat) (ops : Array Oper) (Q : Post) (tail : List Oper) (n : Nat) (F : List Nat) (e : Env) (M : Mem) (i : Nat) : Prop :=
  ∀ (O : Nat → Nat) (H : Nat → Value) (a : Act) (w : World), St N w0 O0 e M O H a w → wpOp P ops Q i (wpSet P ops Q tail n (F.erase i)) a w
def EachI (R : Nat → Prop) : List Nat → Prop
  | [] => True
  | i :: r => R i ∧ EachI R r
theorem EachI.get {R : Nat → Prop} : ∀ {l : List Nat} {i : Nat}, EachI R l → i ∈ l → R i
  | _ :: _, _, h, hi => by
    rcases List.mem_cons.1 hi with rfl | hi
    · exact h.1
    · exact EachI.get h.2 hi
variable {tail : List Oper} {n : Nat} {F : List Nat}
theorem TrSet.zero (h : TrOps P N w0 O0 ops Q e M tail) : TrSet P N w0 O0 ops Q tail 0 F e M := h
theorem TrSet.succ (h : EachI (fun i => (F.any fun j => prec ops 9 i j) = true ∨ TrI P N w0 O0 ops Q tail n F e M i) F) : TrSet P N w0 O0 ops Q tail (n + 1) F e M := fun O H a w hst i hi hp => by
  rcases h.get hi with hb | hb
  · obtain ⟨j, hj, he⟩ := List.any_eq_true.1 hb
    rw [hp j hj] at he; cases he
  · exact hb O H a w hst
theorem TrSet.start (h : TrSet P N w0 O0 ops Q tail n F e M) : TrOps P N w0 O0 ops (nrm (wpSet P ops Q tail n F)) e M [] := fun O H a w hst => ⟨rfl, h O H a w hst⟩
theorem TrI.sem {i d : Nat} {s : S} {F' : List Nat} (ho : ops[i]? = some o) (hsem : OpSem P w0.heap.size o e M s none) (hg : o.guard = none) (hd : o.dst = some d) (hdN : d < N) (hF : F.erase i = F')
    (h : TrSet P N w0 O0 ops Q tail n F' ((d, s) :: e) M) : TrI P N w0 O0 ops Q tail n F e M i := fun O H a w hst => by
  subst hF
  exact wp1 ho (TrOps.sem (Q := nrm (wpSet P ops Q tail n (F.erase i))) hsem hg hd hdN (TrSet.start h) O H a w hst)

/-- As parOk, but the operations F of the open part may also come behind operation k. -/
def parOkS (ops : Array Oper) (k : Nat) (F : List Nat) : Bool :=
  let ds : List (Option Nat) := ops.toList.map (·.dst)
  (F.all fun f => decide (f < k)) && (List.range ops.size).all fun i => match ops[i]? with
    | none => false
    | some o =>
      (o.after.all fun e => !(Region.binds .any e) || decide (e.on < i)) &&
      (if i < k then
        (List.range k).all fun j => match ds.getD j none with
          | some d => (i == j || o.dst != some d) && (!((tmpsOf ops o).contains d) || (decide (j < i) && prec ops 9 i j) || (decide (i < j) && prec ops 9 j i))
          | none => true
      else (List.range i).all fun j => (i == k && F.contains j) || prec ops 9 i j)
theorem parOkS_hd {ops : Array Oper} {k : Nat} {F : List Nat} (hok : parOkS ops k F = true) : ParHd ops k := by
  intro i o hik ho
  unfold parOkS at hok
  simp only [Bool.and_eq_true, List.all_eq_true, List.mem_range] at hok
  have := hok.2 i (Array.getElem?_eq_some_iff.1 ho).1
  simp only [ho, hik, if_true, Bool.and_eq_true] at this
  exact this.2
def subsets : List Nat → List (List Nat)
  | [] => [[]]
  | x :: l => subsets l ++ (subsets l).map (x :: ·)
theorem filter_sub {p : Nat → Bool} : ∀ {l : List Nat}, l.filter p ∈ subsets l
  | [] => by simp [subsets]
  | x :: l => by
    have ih := filter_sub (p := p) (l := l)
    simp only [subsets, List.mem_append, List.mem_map, List.filter_cons]
    split
    · exact .inr ⟨_, ih, rfl⟩
    · exact .inl ih
def slotOf (ps : List PO) (i : Nat) : Nat := ((ps[i]?).map PO.d).getD 0
def pureOk (ps : List PO) (F : List Nat) : Bool := F.all fun f => match ps[f]? with | some p => p.st.isNone && p.mo.isNone && p.ds | none => false

/-- Every order of the open part is served, those of F behind k too. -/
theorem par_set {k : Nat} {F : List Nat} {ps : List PO} {ok : Oper} {M1 : Mem} (hpw : PW P w0.heap.size ops hs M0 (ops.toList.take k) ps e0) (hk : k ≤ ops.size) (hok : parOkS ops k F = true) (hh : handOk e0 M0 ps = true) (hso : stOk hs ps = true) (hN : ∀ p, p ∈ ps → p.ds = true → p.d < N)
    (hpu : pureOk ps F = true) (hnd : F.Nodup) (hokk : ops[k]? = some ok)
    (htl : ∀ F', F' ∈ subsets F → ∃ e2, DropRs (F'.map (slotOf ps)) (finE e0 ps) e2 ∧ TrOps P N w0 O0 ops (nrm (wpSet P ops Q (ops.toList.drop (k + 1)) F'.length F')) e2 (finM M0 ps) [ok]) :
    ∀ (fuel : Nat) (L : Array Bool) (a : Act) (w : World), L.size = ops.size → (∀ i, i < ops.size → L.getD i false = false → fuel ≠ 0) → ((List.range ops.size).filter fun i => !L.getD i false).length ≤ fuel →
      (∀ i, L.getD i false = true → ∀ o, ops[i]? = some o → ∀ e, e ∈ o.after → Region.binds .any e = true → L.getD e.on false = true) →
      ((∃ O H, PSt N w0 O0 e0 hs M0 ps L O H a w ∧ ∀ i, k ≤ i → L.getD i false = false) ∨ (∃ i0, k + 1 ≤ i0 ∧ (∀ i, i < ops.size → (L.getD i false = true ↔ i < i0)) ∧ i0 ≤ ops.size ∧ wpList P ops Q (ops.toList.drop i0) a w) ∨ (∃ F' : List Nat, F'.Nodup ∧ (∀ f, f ∈ F' → f < k) ∧ (∀ i, i < ops.size → (L.getD i false = true ↔ (i < k + 1 ∧ i ∉ F'))) ∧ wpSet P ops Q (ops.toList.drop (k + 1)) F'.length F' a w)) →
      wpAny P .any ops Q fuel L a w := by
  have hops : ∀ i, i < ops.size → ∃ o, ops[i]? = some o := fun i hi => ⟨ops[i], Array.getElem?_eq_getElem hi⟩
  have hfk : ∀ f, f ∈ F → f < k := by unfold parOkS at hok; simp only [Bool.and_eq_true, List.all_eq_true, decide_eq_true_eq] at hok; exact hok.1
  have hkn : k < ops.size := (Array.getElem?_eq_some_iff.1 hokk).1
  have hlenp : ps.length = k := by have := hpw.get.1; rw [← this]; simp; omega
  have hpure : ∀ f p, f ∈ F → ps[f]? = some p → p.st = none ∧ p.mo = none ∧ p.ds = true := by
    intro f p hf hp
    have := List.all_eq_true.1 hpu f hf
    simp only [hp, Bool.and_eq_true, Option.isNone_iff_eq_none] at this
    exact ⟨this.1.1, this.1.2, this.2⟩
  have hchk : ∀ i o, ops[i]? = some o → (∀ e, e ∈ o.after → Region.binds .any e = true → e.on < i) ∧ (k ≤ i → ∀ j, j < i → ¬ (i = k ∧ j ∈ F) → prec ops 9 i j = true) := by
    intro i o ho
    have hi : i < ops.size := (Array.getElem?_eq_some_iff.1 ho).1
    unfold parOkS at hok
    simp only [Bool.and_eq_true, List.all_eq_true, List.mem_range] at hok
    have := hok.2 i hi
    simp only [ho, Bool.and_eq_true] at this
    obtain ⟨h1, h2⟩ := this
    refine ⟨fun e he hb => ?_, fun hki j hj hne => ?_⟩
    · have := Array.all_eq_true'.1 h1 e he
      simp only [hb, Bool.not_true, Bool.false_or, decide_eq_true_eq] at this
      exact this
    · rw [if_neg (by omega)] at h2
      have h3 := List.all_eq_true.1 h2 j (List.mem_range.2 hj)
      simp only [Bool.or_eq_true, Bool.and_eq_true, beq_iff_eq, List.contains_iff_mem] at h3
      exact h3.resolve_left hne
  -- operation k comes up
  have turnS : ∀ (L : Array Bool) (a : Act) (w : World) (F' : List Nat), L.size = ops.size → F' ∈ subsets F → (∀ f, f ∈ F' → f ∈ F) → (∀ i, i < k → i ∉ F' → L.getD i false = true) → (∃ O H, PSt N w0 O0 e0 hs M0 ps L O H a w) →
      wpList P ops (nrm (wpSet P ops Q (ops.toList.drop (k + 1)) F'.length F')) [ok] a w := by
    rintro L a w F' hL hF' hsub h1 ⟨O, H, hst⟩
    obtain ⟨e2, hd, ht⟩ := htl F' hF'
    refine ht O H a w ⟨hst.df, hst.sz, hst.bl, hst.lab, fun n s hs => ?_, fun h m hm => ?_⟩
    · obtain ⟨hn, hs⟩ := hd.look hs
      rcases look_finE hs with ⟨i, p, hp, hps, rfl, rfl⟩ | ⟨h1', h2'⟩
      · have hik : i < k := by rw [← hlenp]; exact (List.getElem?_eq_some_iff.1 hp).1
        refine hst.new i p hp hps (h1 i hik fun hi => hn (List.mem_map.2 ⟨i, hi, ?_⟩))
        simp [slotOf, hp]
      · exact hst.old n s h2' (fun j p hj hs he => absurd he (h1' p (List.mem_of_getElem? hj) hs))
    · rcases look_finM hm with ⟨i, p, hp, hps, hmo⟩ | ⟨i, p, m0, hp, hps⟩ | ⟨hns, hm⟩
      · have hik : i < k := by rw [← hlenp]; exact (List.getElem?_eq_some_iff.1 hp).1
        refine hst.mnew i p h m hp (h1 i hik fun hi => ?_) hps hmo
        rw [(hpure i p (hsub i hi) hp).2.1] at hmo; cases hmo
      · have hik : i < k := by rw [← hlenp]; exact (List.getElem?_eq_some_iff.1 hp).1
        have := hst.sto i p h m0 m hp hps
        rwa [if_pos (h1 i hik fun hi => by rw [(hpure i p (hsub i hi) hp).1] at hps; cases hps)] at this
      · refine hst.mold h m (look_dropM_of (fun hin => ?_) hm)
        unfold stOk at hso
        simp only [Bool.and_eq_true] at hso
        obtain ⟨p, hp, he⟩ := List.any_eq_true.1 (List.all_eq_true.1 hso.2 h hin)
        cases hps : p.st with
        | none => rw [hps] at he; cases he
        | some x =>
          obtain ⟨h', m0, m1⟩ := x
          rw [hps] at he
          exact hns p hp h' m0 m1 hps (Nat.eq_of_beq_eq_true he)
  have hrd : ∀ (L : Array Bool) (i : Nat), L.size = ops.size → i ∈ Region.ready .any ops L → i < ops.size ∧ L.getD i false = false ∧ ∀ o, ops[i]? = some o → ∀ e, e ∈ o.after → Region.binds .any e = true → L.getD e.on false = true := by
    intro L i hL hi
    unfold Region.ready at hi
    rw [List.mem_filter] at hi
    obtain ⟨h1, h2⟩ := hi
    rw [List.mem_range] at h1
    simp only [Bool.and_eq_true, Bool.not_eq_true'] at h2
    obtain ⟨h2, h3⟩ := h2
    refine ⟨h1, ?_, fun o ho e he hb => ?_⟩
    · simpa [Array.getD_eq_getD_getElem?, Array.getElem?_eq_getElem (by omega : i < L.size)] using h2
    · simp only [ho, Option.map_some, Option.getD_some] at h3
      have := Array.all_eq_true'.1 h3 e he
      simpa [hb] using this
  have hnone : ∀ (L : Array Bool), L.size = ops.size → Region.ready .any ops L = [] → ∀ i, i < ops.size → L.getD i false = true := by
    intro L hL hr i
    induction i using Nat.strongRecOn with
    | _ i ih =>
      intro hi
      cases hl : L.getD i false with
      | true => rfl
      | false =>
        exfalso
        obtain ⟨o, ho⟩ := hops i hi
        have : i ∈ Region.ready .any ops L := by
          unfold Region.ready
          rw [List.mem_filter]
          refine ⟨List.mem_range.2 hi, ?_⟩
          simp only [Bool.and_eq_true, Bool.not_eq_true']
          refine ⟨by simpa [Array.getD_eq_getD_getElem?, Array.getElem?_eq_getElem (by omega : i < L.size)] using hl, ?_⟩
          simp only [ho, Option.map_some, Option.getD_some, Array.all_eq_true', Bool.or_eq_true, Bool.not_eq_true']
          intro e he
          by_cases hb : Region.binds .any e = true
          · exact .inr (ih e.on ((hchk i o ho).1 e he hb) (by have := (hchk i o ho).1 e he hb; omega))
          · exact .inl (by simpa using hb)
        rw [hr] at this; cases this
  have hcl' : ∀ (L : Array Bool) (i : Nat), L.size = ops.size → i < ops.size → (∀ i, L.getD i false = true → ∀ o, ops[i]? = some o → ∀ e, e ∈ o.after → Region.binds .any e = true → L.getD e.on false = true) → (∀ o, ops[i]? = some o → ∀ e, e ∈ o.after → Region.binds .any e = true → L.getD e.on false = true) →
      ∀ j, (L.setIfInBounds i true).getD j false = true → ∀ o, ops[j]? = some o → ∀ e, e ∈ o.after → Region.binds .any e = true → (L.setIfInBounds i true).getD e.on false = true := by
    intro L i hL hi hcl hr j hj o ho e he hb
    rw [getD_set (by omega)] at hj ⊢
    split
    · rfl
    · by_cases hji : j = i
      · subst hji; exact hr o ho e he hb
      · rw [if_neg hji] at hj; exact hcl j hj o ho e he hb
  have hcount : ∀ (L : Array Bool) (i n : Nat), L.size = ops.size → i < ops.size → L.getD i false = false → ((List.range ops.size).filter fun i => !L.getD i false).length ≤ n + 1 → ((List.range ops.size).filter fun j => !(L.setIfInBounds i true).getD j false).length ≤ n := by
    intro L i n hL hi hl hc
    have : ((List.range ops.size).filter fun j => !(L.setIfInBounds i true).getD j false) = ((List.range ops.size).filter fun j => !L.getD j false).filter (fun j => j != i) := by
      rw [List.filter_filter]
      apply List.filter_congr
      intro j _
      rw [getD_set (by omega)]
      by_cases h : j = i <;> simp [h]
    rw [this]
    have hlt : (((List.range ops.size).filter fun j => !L.getD j false).filter (fun j => j != i)).length < ((List.range ops.size).filter fun j => !L.getD j false).length := by
      rw [List.length_filter_lt_length_iff_exists]
      exact ⟨i, List.mem_filter.2 ⟨List.mem_range.2 hi, by rw [hl]; rfl⟩, by simp⟩
    omega
  have fin : ∀ (L : Array Bool) (a : Act) (w : World), (∀ i, i < ops.size → L.getD i false = true) → ((∃ O H, PSt N w0 O0 e0 hs M0 ps L O H a w ∧ ∀ i, k ≤ i → L.getD i false = false) ∨ (∃ i0, k + 1 ≤ i0 ∧ (∀ i, i < ops.size → (L.getD i false = true ↔ i < i0)) ∧ i0 ≤ ops.size ∧ wpList P ops Q (ops.toList.drop i0) a w) ∨ (∃ F' : List Nat, F'.Nodup ∧ (∀ f, f ∈ F' → f < k) ∧ (∀ i, i < ops.size → (L.getD i false = true ↔ (i < k + 1 ∧ i ∉ F'))) ∧ wpSet P ops Q (ops.toList.drop (k + 1)) F'.length F' a w)) → Q .normal a w := by
    intro L a w hall hJ
    rcases hJ with ⟨O, H, hst, htail⟩ | ⟨i0, h1, h2, h3, h4⟩ | ⟨F', _, h2, h3, h4⟩
    · have := htail k (Nat.le_refl _); rw [hall k hkn] at this; cases this
    · have : i0 = ops.size := by
        rcases Nat.lt_or_ge i0 ops.size with h | h
        · have := (h2 i0 h).1 (hall i0 h); omega
        · omega
      rw [List.drop_eq_nil_of_le (by simp; omega)] at h4
      exact h4
    · have hnil : F' = [] := by
        cases F' with
        | nil => rfl
        | cons f r => exact absurd (List.mem_cons_self) ((h3 f (by have := h2 f List.mem_cons_self; omega)).1 (hall f (by have := h2 f List.mem_cons_self; omega))).2
      subst hnil
      have : ops.size = k + 1 := by
        rcases Nat.lt_or_ge (k + 1) ops.size with h | h
        · have := ((h3 (k + 1) h).1 (hall (k + 1) h)).1; omega
        · omega
      have h5 : wpList P ops Q (ops.toList.drop (k + 1)) a w := h4
      rw [List.drop_eq_nil_of_le (by simp; omega)] at h5
      exact h5
  intro fuel
  induction fuel with
  | zero =>
    intro L a w hL hf hc hcl hJ
    have hall : ∀ i, i < ops.size → L.getD i false = true := fun i hi => by
      cases hl : L.getD i false with
      | true => rfl
      | false => exact absurd rfl (hf i hi hl)
    refine ⟨?_, fin L a w hall hJ⟩
    rw [List.eq_nil_iff_forall_not_mem]
    intro i hi
    obtain ⟨h1, h2, _⟩ := hrd L i hL hi
    rw [hall i h1] at h2; cases h2
  | succ fuel ih =>
    intro L a w hL hf hc hcl hJ
    have next : ∀ (i : Nat) (a' : Act) (w' : World), i < ops.size → L.getD i false = false → (∀ o, ops[i]? = some o → ∀ e, e ∈ o.after → Region.binds .any e = true → L.getD e.on false = true) →
        ((∃ O H, PSt N w0 O0 e0 hs M0 ps (L.setIfInBounds i true) O H a' w' ∧ ∀ j, k ≤ j → (L.setIfInBounds i true).getD j false = false) ∨ (∃ i0, k + 1 ≤ i0 ∧ (∀ j, j < ops.size → ((L.setIfInBounds i true).getD j false = true ↔ j < i0)) ∧ i0 ≤ ops.size ∧ wpList P ops Q (ops.toList.drop i0) a' w') ∨ (∃ F' : List Nat, F'.Nodup ∧ (∀ f, f ∈ F' → f < k) ∧ (∀ j, j < ops.size → ((L.setIfInBounds i true).getD j false = true ↔ (j < k + 1 ∧ j ∉ F'))) ∧ wpSet P ops Q (ops.toList.drop (k + 1)) F'.length F' a' w')) →
        wpAny P .any ops Q fuel (L.setIfInBounds i true) a' w' := by
      intro i a' w' hi hl hr hJ'
      have hcc := hcount L i fuel hL hi hl hc
      refine ih _ a' w' (by simpa using hL) (fun j hj hlj h0 => ?_) hcc (hcl' L i hL hi hcl hr) hJ'
      subst h0
      have : ((List.range ops.size).filter fun j => !(L.setIfInBounds i true).getD j false) = [] := List.eq_nil_of_length_eq_zero (by omega)
      have hm : j ∈ ((List.range ops.size).filter fun j => !(L.setIfInBounds i true).getD j false) := List.mem_filter.2 ⟨List.mem_range.2 hj, by rw [hlj]; rfl⟩
      rw [this] at hm; cases hm
    -- the tail
    have tail : ∀ (i0 : Nat), k + 1 ≤ i0 → (∀ i, i < ops.size → (L.getD i false = true ↔ i < i0)) → i0 ≤ ops.size → wpList P ops Q (ops.toList.drop i0) a w → ∀ i, i ∈ Region.ready .any ops L → wpOp P ops Q i (wpAny P .any ops Q fuel (L.setIfInBounds i true)) a w := by
      intro i0 h1 h2 h3 h4 i hi
      obtain ⟨hi1, hi2, hi3⟩ := hrd L i hL hi
      obtain ⟨o, ho⟩ := hops i hi1
      have hge : i0 ≤ i := by
        rcases Nat.lt_or_ge i i0 with h | h
        · have := (h2 i hi1).2 h; rw [hi2] at this; cases this
        · exact h
      have hall : ∀ j, j < i → L.getD j false = true := fun j hj => prec_closed hcl 9 i j ((hchk i o ho).2 (by omega) j hj (fun h => by omega)) hi3
      have hii : i = i0 := by
        rcases Nat.lt_or_ge i0 i with h | h
        · have := (h2 i0 (by omega)).1 (hall i0 h); omega
        · omega
      subst hii
      have hd : ops.toList.drop i = o :: ops.toList.drop (i + 1) := by
        rw [List.drop_eq_getElem_cons (by simpa using hi1)]
        congr 1
        have := (Array.getElem?_eq_some_iff.1 ho).2
        simpa using this
      rw [hd] at h4
      have hK : ∀ a' w', wpList P ops Q (ops.toList.drop (i + 1)) a' w' → wpAny P .any ops Q fuel (L.setIfInBounds i true) a' w' := fun a' w' hw' =>
        next i a' w' hi1 hi2 hi3 (.inr (.inl ⟨i + 1, by omega, fun j hj => by
          rw [getD_set (by omega)]
          by_cases hji : j = i
          · simp [hji]
          · rw [if_neg hji, h2 j hj]; omega, by omega, hw'⟩))
      unfold wpOp
      simp only [ho]
      simp only [wpList] at h4
      split
      · rename_i hw
        rw [if_pos hw] at h4
        exact h4.imp (Oper.wp_mono hK) id
      · rename_i hw
        rw [if_neg hw] at h4
        exact hK _ _ h4
    have opMono : ∀ (i : Nat) (R : Act → World → Prop), (∀ a' w', R a' w' → wpAny P .any ops Q fuel (L.setIfInBounds i true) a' w') → wpOp P ops Q i R a w → wpOp P ops Q i (wpAny P .any ops Q fuel (L.setIfInBounds i true)) a w := by
      intro i R hR h4
      unfold wpOp at h4 ⊢
      split
      · rename_i hn
        simp only [hn] at h4
        exact hR _ _ h4
      · rename_i o ho
        simp only [ho] at h4
        split
        · rename_i hw
          rw [if_pos hw] at h4
          exact h4.imp (Oper.wp_mono hR) id
        · rename_i hw
          rw [if_neg hw] at h4
          exact hR _ _ h4
    refine ⟨fun hr => fin L a w (hnone L hL hr) hJ, fun i hi => ?_⟩
    obtain ⟨hi1, hi2, hi3⟩ := hrd L i hL hi
    obtain ⟨o, ho⟩ := hops i hi1
    rcases hJ with ⟨O, H, hst, htail⟩ | ⟨i0, h1, h2, h3, h4⟩ | ⟨F', hnd', h2, h3, h4⟩
    · rcases Nat.lt_or_ge i k with hik | hik
      · refine PSt.step hpw hk (parOkS_hd hok) hh hso hL hcl hst hik ho (hi3 o ho) hi2 hN _ fun O' H' a' w' hst' => ?_
        refine next i a' w' hi1 hi2 hi3 (.inl ⟨O', H', hst', fun j hj => ?_⟩)
        rw [getD_set (by omega), if_neg (by omega)]
        exact htail j hj
      · have hik' : i = k := by
          rcases Nat.lt_or_ge k i with h | h
          · have := prec_closed hcl 9 i k ((hchk i o ho).2 hik k h (fun hh => by omega)) hi3
            rw [htail k (Nat.le_refl _)] at this; cases this
          · omega
        subst hik'
        have hall : ∀ j, j < i → j ∉ F.filter (fun j => !L.getD j false) → L.getD j false = true := fun j hj hjf => by
          by_cases hjF : j ∈ F
          · cases hlj : L.getD j false with
            | true => rfl
            | false => exact absurd (List.mem_filter.2 ⟨hjF, by simp [hlj]⟩) hjf
          · exact prec_closed hcl 9 i j ((hchk i o ho).2 hik j hj (fun h => hjF h.2)) hi3
        have h4 := turnS L a w (F.filter fun j => !L.getD j false) hL filter_sub (fun f hf => (List.mem_filter.1 hf).1) hall ⟨O, H, hst⟩
        refine opMono i _ (fun a' w' hw' => ?_) (wp1 hokk h4)
        refine next i a' w' hi1 hi2 hi3 (.inr (.inr ⟨_, hnd.filter _, fun f hf => hfk f (List.mem_filter.1 hf).1, fun j hj => ?_, hw'⟩))
        rw [getD_set (by omega)]
        by_cases hji : j = i
        · subst hji
          simp only [if_true, true_iff]
          exact ⟨by omega, fun hm => by have := hfk j (List.mem_filter.1 hm).1; omega⟩
        · rw [if_neg hji]
          constructor
          · intro hlj
            rcases Nat.lt_or_ge j i with h | h
            · exact ⟨by omega, fun hm => by have := (List.mem_filter.1 hm).2; rw [hlj] at this; cases this⟩
            · rw [htail j h] at hlj; cases hlj
          · rintro ⟨h5, h6⟩
            exact hall j (by omega) h6
    · exact tail i0 h1 h2 h3 h4 i hi
    · by_cases hif : i ∈ F'
      · obtain ⟨m, hm⟩ : ∃ m, F'.length = m + 1 := by
          cases F' with
          | nil => cases hif
          | cons _ r => exact ⟨r.length, rfl⟩
        rw [hm] at h4
        have h5 := h4 i hif (fun j hj => by
          cases hp : prec ops 9 i j with
          | false => rfl
          | true => exact absurd hj ((h3 j (by have := h2 j hj; omega)).1 (prec_closed hcl 9 i j hp hi3)).2)
        refine opMono i _ (fun a' w' hw' => ?_) h5
        refine next i a' w' hi1 hi2 hi3 (.inr (.inr ⟨F'.erase i, hnd'.erase i, fun f hf => h2 f (List.mem_of_mem_erase hf), fun j hj => ?_, ?_⟩))
        · rw [getD_set (by omega), hnd'.mem_erase_iff]
          by_cases hji : j = i
          · subst hji
            have := h2 j hif
            simp; omega
          · rw [if_neg hji, h3 j hj]; simp [hji]
        · rw [List.length_erase_of_mem hif, hm]; exact hw'
      · have hge : k + 1 ≤ i := by
          rcases Nat.lt_or_ge i (k + 1) with h | h
          · have := (h3 i hi1).2 ⟨h, hif⟩; rw [hi2] at this; cases this
          · exact h
        have hnil : F' = [] := by
          cases F' with
          | nil => rfl
          | cons f r =>
            have hf := h2 f List.mem_cons_self
            have h6 := prec_closed hcl 9 i f ((hchk i o ho).2 (by omega) f (by omega) (fun h => by omega)) hi3
            exact absurd List.mem_cons_self ((h3 f (by omega)).1 h6).2
        subst hnil
        exact tail (k + 1) (Nat.le_refl _) (fun j hj => by rw [h3 j hj]; simp) hkn h4 i hi

theorem Tr.parS {id k : Nat} {F : List Nat} {ps : List PO} {ok : Oper} (hm : P.follows .mixedOrders = true) (hpw : PW P w0.heap.size ops hs M0 (ops.toList.take k) ps e0) (hk : k ≤ ops.size) (hok : parOkS ops k F = true) (hh : handOk e0 M0 ps = true) (hso : stOk hs ps = true) (hN : ps.all (fun p => !p.ds || decide (p.d < N)) = true)
    (hpu : pureOk ps F = true) (hnd : F.Nodup) (hokk : ops[k]? = some ok)
    (htl : ∀ F', F' ∈ subsets F → ∃ e2, DropRs (F'.map (slotOf ps)) (finE e0 ps) e2 ∧ TrOps P N w0 O0 ops (nrm (wpSet P ops Q (ops.toList.drop (k + 1)) F'.length F')) e2 (finM M0 ps) [ok]) : Tr P N w0 O0 e0 M0 (.region id ops true) Q := by
  intro O H a w hst
  have memD : ∀ h m, look M0 h = some m → MHold O H w0.heap.size w.drew h m := fun h m hm => MHold.mono (w := w) (w' := w.drew) (hb := none) (hh := none) (O := O) (O' := O) (H := H) (H' := H) ⟨fun _ _ => rfl, fun _ _ _ => rfl, fun _ _ => rfl⟩ (hst.mem h m hm) (by simp) (by simp) 0 (fun h he => by cases he) (.inl rfl)
  refine wp_region_any hm (par_set (M1 := M0) hpw hk hok hh hso (fun p hp hps => by have := List.all_eq_true.1 hN p hp; rw [hps] at this; simpa using this) hpu hnd hokk htl ops.size _ a _ (by simp) (fun i hi _ => by omega) (Nat.le_trans (List.length_filter_le _ _) (by simp)) (fun i hi => ?_) (.inl ⟨O, H, ?_, fun i _ => ?_⟩))
  · simp only [Array.getD_eq_getD_getElem?, Array.getElem?_replicate] at hi
    split at hi <;> simp at hi
  · refine ⟨hst.df, hst.sz, hst.bl.drew, hst.lab, fun n s hs _ => (let ⟨x, hx, hr⟩ := hst.slots n s hs; ⟨x, hx, RepS.keeps (w := w) (w' := w.drew) (O := O) (fun b _ h => ⟨h, rfl⟩) hr⟩), fun i p _ _ hi => ?_, fun h m hm => memD h m (look_dropM hm).1, fun i p h m _ hi => ?_, fun i p h m m' hp hps => ?_⟩
    · simp only [Array.getD_eq_getD_getElem?, Array.getElem?_replicate] at hi
      split at hi <;> simp at hi
    · simp only [Array.getD_eq_getD_getElem?, Array.getElem?_replicate] at hi
      split at hi <;> simp at hi
    · have hF : (Array.replicate ops.size false).getD i false = false := by
        simp only [Array.getD_eq_getD_getElem?, Array.getElem?_replicate]
        split <;> simp
      rw [if_neg (by rw [hF]; simp)]
      obtain ⟨o, ho⟩ : ∃ o, (ops.toList.take k)[i]? = some o := ⟨(ops.toList.take k)[i]'(by rw [hpw.get.1]; exact (List.getElem?_eq_some_iff.1 hp).1), List.getElem?_eq_getElem _⟩
      have hs1 := hpw.get.2 i o p ho hp
      simp only [PStep, hps] at hs1
      exact memD h m hs1.2.2.2.1
  · simp only [Array.getD_eq_getD_getElem?, Array.getElem?_replicate]
    split <;> simp


def EachL (R : List Nat → Prop) : List (List Nat) → Prop
  | [] => True
  | i :: r => R i ∧ EachL R r
theorem EachL.get {R : List Nat → Prop} : ∀ {l : List (List Nat)} {i : List Nat}, EachL R l → i ∈ l → R i
  | _ :: _, _, h, hi => by
    rcases List.mem_cons.1 hi with rfl | hi
    · exact h.1
    · exact EachL.get h.2 hi
/-- The open part is through; the operations F may come behind the next one. -/
theorem PC.doneS {id : Nat} {ps : List PO} {e : Env} {rest : List Oper} (F : List Nat) {ok : Oper} (ss : List (List Nat)) (hm : P.follows .mixedOrders = true) (hok : parOkS ops ps.length F = true) (hh : handOk e0 M0 ps = true) (hso : stOk hs ps = true) (hN : ps.all (fun p => !p.ds || decide (p.d < N)) = true)
    (hpu : pureOk ps F = true) (hnd : F.Nodup) (hss : subsets F = ss) (hM : finM M0 ps = M0)
    (htl : EachL (fun F' => ∃ D e2, F'.map (slotOf ps) = D ∧ DropRs D e e2 ∧ TrOps P N w0 O0 ops (nrm (wpSet P ops Q rest F'.length F')) e2 M0 [ok]) ss) : PC P N w0 O0 id ops Q hs e0 M0 ps e (ok :: rest) := by
  intro pre hops hpw he
  subst he
  have hlen : pre.length = ps.length := hpw.get.1
  have hk : ps.length ≤ ops.size := by
    have : ops.size = (pre ++ ok :: rest).length := by rw [← hops]; simp
    rw [this, ← hlen]; simp
  have hd : ops.toList.drop (ps.length + 1) = rest := by rw [hops, ← hlen, List.drop_append]; simp
  have hokk : ops[ps.length]? = some ok := by
    rw [← Array.getElem?_toList, hops, ← hlen, List.getElem?_append_right (Nat.le_refl _)]; simp
  refine Tr.parS (k := ps.length) (F := F) (ps := ps) (ok := ok) hm ?_ hk hok hh hso hN hpu hnd hokk fun F' hF' => ?_
  · rw [hops, ← hlen, List.take_left]; exact hpw
  · rw [hd, hM]
    rw [hss] at hF'
    obtain ⟨D, e2, rfl, h1, h2⟩ := htl.get hF'
    exact ⟨e2, h1, h2⟩
end
end Go.Eng
end
