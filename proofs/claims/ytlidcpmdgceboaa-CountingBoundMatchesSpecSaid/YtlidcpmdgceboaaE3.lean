/- The engine and the walks that this claim uses, part 3. Written by prune.py out of our own texts. -/
import Derived.Test.YtlidcpmdgceboaaE2
import Derived.Shelf.SortM.Plain
import Derived.Shelf.SortM.SortNone
set_option linter.unusedSimpArgs false
set_option linter.unnecessarySimpa false
set_option linter.unusedVariables false
set_option linter.unusedSectionVars false
section
/- Labels: the ends of arcs, equivalent labels, the smallest equivalent label; strictly sorted lists. -/

namespace Go.Eng
open Go
open Go.RowKit (Below)
/-! ### A region with few orders: each of them -/
def pickAt : List Oper → Nat → List Oper → List Oper
  | [], _, r => r
  | o :: _, 0, r => o :: r
  | _ :: l, n + 1, r => pickAt l n r
def pickL (l : List Oper) : List Nat → List Oper
  | [] => []
  | i :: s => pickAt l i (pickL l s)
section
variable {P : Program} {N : Nat} {w0 : World} {O0 : Nat → Nat} {Q : Post} {e : Env} {M : Mem}
theorem St.drew {O : Nat → Nat} {H : Nat → Value} {a : Act} {w : World} (hst : St N w0 O0 e M O H a w) : St N w0 O0 e M O H a w.drew :=
  ⟨hst.df, hst.sz, hst.bl.drew, hst.lab, fun n s hs => (let ⟨x, hx, hr⟩ := hst.slots n s hs; ⟨x, hx, RepS.keeps (w := w) (w' := w.drew) (O := O) (fun b _ h => ⟨h, rfl⟩) hr⟩),
    fun h m hm => MHold.mono (w := w) (w' := w.drew) (hb := none) (hh := none) (O := O) (O' := O) (H := H) (H' := H) ⟨fun _ _ => rfl, fun _ _ _ => rfl, fun _ _ => rfl⟩ (hst.mem h m hm) (by simp) (by simp) 0 (fun h he => by cases he) (.inl rfl)⟩
def TrAll (P : Program) (N : Nat) (w0 : World) (O0 : Nat → Nat) (l : List Oper) (Q : Post) (e : Env) (M : Mem) : List (List Nat) → Prop
  | [] => True
  | s :: r => TrOps P N w0 O0 l.toArray Q e M (pickL l s) ∧ TrAll P N w0 O0 l Q e M r
theorem TrAll.get {l : List Oper} : ∀ {ss : List (List Nat)} {s : List Nat}, TrAll P N w0 O0 l Q e M ss → s ∈ ss → TrOps P N w0 O0 l.toArray Q e M (pickL l s)
  | _ :: _, _, h, hs => by
    rcases List.mem_cons.1 hs with rfl | hs
    · exact h.1
    · exact TrAll.get h.2 hs
end
/-! ### Strictly sorted lists -/
/-! ### The ends of the arcs of a label -/
def endsTo (a : Abs) (x : Int) (k : Nat) : List Asg := ((a.arcs.take k).filter fun r => decide (r.lab = x)).map fun r => (r.fr, r.to)
def endsL (a : Abs) (x : Int) : List Asg := endsTo a x a.arcs.length
/-! ### Equivalent labels -/
def EqvP (l : List Abs) (c : List Int) (ex x y : Int) : Prop := nth c x = nth c y ∧ ∀ i : Nat, i < l.length → (i : Int) ≠ ex → endsL (nth l i) x = endsL (nth l i) y
instance (l : List Abs) (c : List Int) (ex x y : Int) : Decidable (EqvP l c ex x y) := by unfold EqvP; infer_instance
theorem EqvP.refl {l : List Abs} {c : List Int} {ex x : Int} : EqvP l c ex x x := ⟨rfl, fun _ _ _ => rfl⟩
theorem EqvP.symm {l : List Abs} {c : List Int} {ex x y : Int} (h : EqvP l c ex x y) : EqvP l c ex y x := ⟨h.1.symm, fun i h1 h2 => (h.2 i h1 h2).symm⟩
theorem EqvP.trans {l : List Abs} {c : List Int} {ex x y z : Int} (h : EqvP l c ex x y) (k : EqvP l c ex y z) : EqvP l c ex x z := ⟨h.1.trans k.1, fun i h1 h2 => (h.2 i h1 h2).trans (k.2 i h1 h2)⟩
theorem pw_lt_len {n : Int} : ∀ {l : List Int} {x : Int}, l.Pairwise (· < ·) → (∀ y, y ∈ l → x ≤ y ∧ y < n) → (l.length : Int) ≤ max 0 (n - x)
  | [], x, _, _ => by simp; omega
  | y :: l, x, hp, hm => by
    rw [List.pairwise_cons] at hp
    have h1 := hm y (by simp)
    have := pw_lt_len (n := n) (x := y + 1) hp.2 (fun z hz => ⟨by have := hp.1 z hz; omega, (hm z (by simp [hz])).2⟩)
    simp only [List.length_cons]
    omega
/-! ### Sorted arcs without duplicates -/
theorem ddTo_last {α : Type} [DecidableEq α] [Inhabited α] {l : List α} : ∀ {k : Nat}, 0 < k → ∃ r, ddTo l k = r ++ [nth l (k - 1 : Int)]
  | 0, h => by omega
  | k + 1, _ => by
    have e : ((k + 1 : Nat) : Int) - 1 = k := by omega
    rw [e]
    simp only [ddTo]
    split
    · rename_i h
      obtain ⟨r, hr⟩ := ddTo_last (l := l) h.1
      exact ⟨r, by rw [hr, h.2]⟩
    · exact ⟨_, rfl⟩
theorem ddTo_mem {α : Type} [DecidableEq α] [Inhabited α] {l : List α} {x : α} : ∀ {k : Nat}, k ≤ l.length → (x ∈ ddTo l k ↔ x ∈ l.take k)
  | 0, _ => by simp [ddTo]
  | k + 1, hk => by
    have ih := ddTo_mem (x := x) (l := l) (k := k) (by omega)
    have hs : l.take (k + 1) = l.take k ++ [nth l k] := by rw [List.take_add_one, List.getElem?_eq_getElem (by omega), nth_eq (by omega)]; rfl
    rw [hs]
    simp only [ddTo]
    split
    · rename_i h
      rw [ih, List.mem_append, List.mem_singleton]
      refine ⟨.inl, fun hx => hx.elim id fun hx => ?_⟩
      obtain ⟨r, hr⟩ := ddTo_last (l := l) h.1
      rw [← ih, hr, hx, h.2]; simp
    · rw [List.mem_append, List.mem_append, ih]
theorem dd_mem {α : Type} [DecidableEq α] [Inhabited α] {l : List α} {x : α} : x ∈ dd l ↔ x ∈ l := by
  unfold dd; rw [ddTo_mem (Nat.le_refl _), List.take_length]
/-! ### The reference's insertion -/
/-! ### Distances depend on the set of edges alone -/
/-! ### The example -/
section
variable {P : Program} {B : Nat} {o : Oper} {e : Env} {M : Mem}
/-- Data appended to nil: a slice of the call's own. -/
theorem OpSem.appendNil {x y : Operand} {t k T by_ : Nat} {rows2 : List (List D)} {zs : List Value} (h : Nat) (ho : o.op = .call { callee := .builtin .append, args := #[x, y], argTypes := #[t, t] })
    (hx : opS e x = some (.d (.v (.slice none 0 0)))) (hy : opS e y = some (.d (.s k rows2))) (hk : esz P t = some k) (hT : P.elem t = T) (hz : zcells P T = some zs) (hzk : zs.length = k) (hk0 : 0 < k) (hby : P.bytesOf T = by_)
    (hone : ∀ r, r ∈ rows2 → r.all D.one = true) (hlen : rows2.length ≤ maxLen) (hroom : rows2.length * by_ ≤ 140737488355328) :
    OpSem P B o e M (.o h) (some (h, .own k T rows2)) := by
  intro O H a w hB hs hm K hK
  have hr := hs x (by simp [ho, Op.operands, Call.operands]) _ hx
  have hv := hs y (by simp [ho, Op.operands, Call.operands]) _ hy
  generalize hxa : a.eval x = xa at hr
  generalize hya : a.eval y = ya at hv
  obtain rfl : xa = .slice none 0 0 := by cases hr with | d _ _ q => cases q with | v _ => rfl
  obtain ⟨hu, i, hi, hik⟩ := esz_spec hk
  rw [hT] at hu hi
  have hbi : i.bytes = by_ := by simpa [Program.bytesOf, hi] using hby
  obtain ⟨z, hiz, hzc⟩ : ∃ z, i.zero = some z ∧ z.cells = zs.toArray := by
    unfold zcells at hz
    cases hq : i.zero with
    | none => simp [hi, hq] at hz
    | some z => simp [hi, hq] at hz; exact ⟨z, rfl, by rw [← hz]⟩
  have hzz : z.cells.size = k := by rw [hzc]; simpa using hzk
  by_cases hne : rows2 = []
  · subst hne
    have hya' : ∃ ad c, ya = .slice ad 0 c := by
      cases hv with
      | d _ _ q => obtain ⟨ad, c, e, _⟩ := q.slice; exact ⟨ad, c, e⟩
    obtain ⟨ad, c, rfl⟩ := hya'
    have hf : ∀ w, (Builtin.firstCells k 0 (.slice ad 0 c)).run P w = .ok #[] w := by
      intro w
      cases ad with
      | none => simp [Builtin.firstCells]
      | some a => simp [Builtin.firstCells, loadCells, loadCellsFrom]
    have hrun : (execOp a.eval o).run P w = .ok (.value (.slice none 0 0)) w := by
      simp [execOp, ho, resolve, invoke, builtin, hxa, hya, Builtin.append_, run_underlying hu, Go.sizeOf, typeInfo, hi, Builtin.lenOf, hik, hf]
    unfold Oper.wp
    rw [hrun]
    obtain ⟨H', hH'⟩ : ∃ H' : Nat → Value, H' = fun m => if m = h then (.slice none 0 0 : Value) else H m := ⟨_, rfl⟩
    have hH : H' h = .slice none 0 0 := by rw [hH']; simp
    refine hK O H' w _ ⟨fun _ _ => rfl, fun _ _ _ => rfl, fun n hn => by rw [hH']; simp; intro e; subst e; exact (hn (by simp)).elim⟩ (.refl _ _) ?_ (fun h' m he => ?_)
    · have := RepS.o (O := O) (w := w) (H := H') h (by rw [hH]; rfl)
      rwa [hH] at this
    · simp only [Option.some.injEq, Prod.mk.injEq] at he
      obtain ⟨rfl, rfl⟩ := he
      exact .inl ⟨hH, rfl⟩
  · have hpos : 0 < rows2.length := List.length_pos_iff.2 hne
    obtain ⟨a2, c2, rfl, hv2⟩ : ∃ a2 c2, ya = .slice (some a2) rows2.length c2 ∧ RepD O w (.slice (some a2) rows2.length c2) (.s k rows2) := by
      cases hv with
      | d _ _ q => cases q with
        | e => simp at hpos
        | s b off c _ _ yv h1 h2 h3 h4 h5 h6 => exact ⟨⟨b, off, none⟩, c, rfl, .s b off c k rows2 yv h1 h2 h3 h4 h5 h6⟩
    obtain ⟨_, news, hn1, hn2⟩ := hv2.cellsL hk0
    have hnl : news.length = rows2.length * i.size := by rw [hn1.1, hik]
    have hrun0 := run_append_nil (P := P) w t o.type T i z hu hi hiz a2 rows2.length c2 news hnl hn2 hpos (by simp only [maxLen] at hlen; omega) (by rw [hbi]; omega)
    obtain ⟨cap, hcap⟩ : ∃ cap, cap = grownCap w rows2.length 0 T := ⟨_, rfl⟩
    have hc1 : rows2.length ≤ cap := by rw [hcap]; exact grownCap_ge w rows2.length 0 T
    have hc2 : cap ≤ maxLen := by rw [hcap]; exact grownCap_le_maxLen w rows2.length 0 T hlen
    rw [← hcap] at hrun0
    have hrun : (execOp a.eval o).run P w = .ok (.value (.slice (some ⟨w.heap.size, 0, none⟩) rows2.length cap)) (w.drew.alloc (.cells (news.toArray ++ Builtin.zeroCells z.cells (cap - rows2.length)) T)) := by
      simp [execOp, ho, resolve, invoke, builtin, hxa, hya, hrun0]
    unfold Oper.wp
    rw [hrun]
    obtain ⟨H', hH'⟩ : ∃ H' : Nat → Value, H' = fun m => if m = h then (.slice (some ⟨w.heap.size, 0, none⟩) rows2.length cap : Value) else H m := ⟨_, rfl⟩
    have hH : H' h = .slice (some ⟨w.heap.size, 0, none⟩) rows2.length cap := by rw [hH']; simp
    have hkp : Keeps O w (fun b' => if b' = w.heap.size then h + 1 else O b') (w.drew.alloc (.cells (news.toArray ++ Builtin.zeroCells z.cells (cap - rows2.length)) T)) :=
      fun b' hb' hO => ⟨by simp [Nat.ne_of_lt hb', hO], heap_alloc_old w.drew _ hb'⟩
    refine hK (fun b' => if b' = w.heap.size then h + 1 else O b') H' _ _ ⟨fun b' hb' => by simp [Nat.ne_of_lt hb'], fun b' hb' _ => heap_alloc_old w.drew _ hb', fun n hn => by rw [hH']; simp; intro e; subst e; exact (hn (by simp)).elim⟩
      ⟨rfl, rfl, rfl, by simp, fun b' hb' => heap_alloc_old w.drew _ (by simp; omega)⟩ ?_ (fun h' m he => ?_)
    · have := RepS.o (O := fun b' => if b' = w.heap.size then h + 1 else O b') (w := w.drew.alloc (.cells (news.toArray ++ Builtin.zeroCells z.cells (cap - rows2.length)) T)) (H := H') h (by rw [hH]; rfl)
      rwa [hH] at this
    · simp only [Option.some.injEq, Prod.mk.injEq] at he
      obtain ⟨rfl, rfl⟩ := he
      refine .inr ⟨w.heap.size, cap, _, by rw [hH], hB, by simp, heap_alloc_new w.drew _, hc1, hc2, ?_, hn1.2.1, fun i' r j d hi' hj => ?_⟩
      · simp only [Array.size_append, List.size_toArray, size_zeroCells, hzz, hn1.1, ← Nat.add_mul]
        congr 1; omega
      · obtain ⟨v, hv, hrep⟩ := hn1.2.2 i' r j d hi' hj
        refine ⟨v, ?_, hrep.mono hkp, hrep.one' ?_⟩
        · have hlt := (List.getElem?_eq_some_iff.1 hv).1
          rw [Array.getElem?_append_left (by simpa using hlt)]; simpa using hv
        · have := hone r (List.mem_of_getElem? hi')
          rw [List.all_eq_true] at this
          exact this d (List.mem_of_getElem? hj)
end
section
variable {P : Program} {B : Nat} {o : Oper} {e : Env} {M : Mem}
end
end Go.Eng
end

section
/- Products of abstractions. -/

namespace Go.Eng
open Go
/-! ### Lists -/
theorem nodup_le {α : Type} [DecidableEq α] : ∀ {l l' : List α}, l.Nodup → (∀ x, x ∈ l → x ∈ l') → l.length ≤ l'.length
  | [], _, _, _ => by simp
  | x :: l, l', hn, h => by
    rw [List.nodup_cons] at hn
    have hx := h x (by simp)
    have := nodup_le (l := l) (l' := l'.erase x) hn.2 (fun y hy => (List.mem_erase_of_ne (fun e => by subst e; exact hn.1 hy)).2 (h y (by simp [hy])))
    rw [List.length_erase_of_mem hx] at this
    have : 0 < l'.length := List.length_pos_of_mem hx
    simp only [List.length_cons]; omega
theorem tk_s {α : Type} [Inhabited α] {l : List α} {k : Nat} (hk : k < l.length) : l.take (k + 1) = l.take k ++ [nth l k] := by
  rw [List.take_add_one, List.getElem?_eq_getElem hk, nth_eq hk]; rfl
/-! ### The program's product -/
def prA (n : Int) (x y : Arc) : Arc := ⟨x.fr * n + y.fr, x.lab, x.to * n + y.to⟩
def timJ (b : Abs) (x : Arc) (j : Nat) : List Arc := ((b.arcs.take j).filter fun y => decide (x.lab = y.lab)).map (prA b.states x)
def timI (a b : Abs) (i : Nat) : List Arc := (a.arcs.take i).flatMap fun x => timJ b x b.arcs.length
def timG (a b : Abs) (x : Int) (j : Nat) : List Int := (b.goals.take j).map fun y => x * b.states + y
def timH (a b : Abs) (i : Nat) : List Int := (a.goals.take i).flatMap fun x => timG a b x b.goals.length
def timA (a b : Abs) : Abs := ⟨a.states * b.states, a.labels, dd (sortL (timI a b a.arcs.length)), a.init * b.states + b.init, timH a b a.goals.length⟩
section
variable {a b : Abs} (ha : AbsOk a) (hb : AbsOk b)
include ha hb
end
/-! ### Faults -/
/-- What a product needs. -/
structure PrdP (a b : Abs) : Prop where
  oa : AbsOk a
  ob : AbsOk b
  lab : a.labels = b.labels
  st : a.states * b.states ≤ 60
/-! ### The reference's product -/
section
variable {a b : Abs} (h : PrdP a b)
include h
end
/-! ### Distances in products -/
section
variable {a b : Abs} {c : List Int} (h : PrdP a b)
include h
theorem PrdP.symm : PrdP b a := ⟨h.ob, h.oa, h.lab.symm, by rw [Int.mul_comm]; exact h.st⟩
end
/-! ### Exact label reduction -/
/-! ### The product of all variables -/
def prodA (m : Multi) : Nat → Abs
  | 0 => atomA m 0
  | k + 1 => timA (prodA m k) (atomA m (k + 1 : Nat))
section
variable {m : Multi} (hv : Valid m)
include hv
end
/-- The products so far. -/
def pOk (m : Multi) (v : Nat) : Prop := ∀ j : Nat, j < v → (prodA m j).arcs.length ≤ 400
instance (m : Multi) (v : Nat) : Decidable (pOk m v) := by unfold pOk; infer_instance
section
variable {m : Multi} (hval : validate m = (0, 0)) (hr : ranks m.sizes ≤ 60)
include hval hr
end
end Go.Eng
end

section
/- Partitions of states: numbers in the order of first occurrence, refinement, the coarsest bisimulation. -/



namespace Go.Eng
open Go
section
variable {α : Type} [DecidableEq α] [Inhabited α]
end
/-! ### The map of numbers -/
/-! ### Refinement -/
end Go.Eng
end

section
/- The engine, part 25: slices.Sort of integers, in place. -/



namespace Go.Eng
open Go.Shelf Go.Lib Go.Proofs
open Go.Sort (Holds ahead grow putCells putRow mapBlock onCells)
def sortI (l : List Int) : List Int := l.mergeSort fun x y => decide (x ≤ y)
theorem sortI_mem {l : List Int} {x : Int} : x ∈ sortI l ↔ x ∈ l := (List.mergeSort_perm l _).mem_iff
theorem sortI_sorted {l : List Int} : (sortI l).Pairwise (· ≤ ·) := by
  have := List.pairwise_mergeSort (le := fun x y : Int => decide (x ≤ y)) (fun a b c h1 h2 => by simp at *; omega) (fun a b => by simp; omega) l
  exact this.imp fun h => by simpa using h
end Go.Eng
end

section
/- Quotients of abstractions; bisimulations and distances. -/


namespace Go.Eng
open Go
/-! ### Partitions -/
def topTo (p : List Int) : Nat → Int
  | 0 => 0
  | k + 1 => max (topTo p k) (nth p k + 1)
def PartP (p : List Int) : Prop := ∀ k : Nat, k < p.length → 0 ≤ nth p k ∧ nth p k ≤ topTo p k
instance {p : List Int} : Decidable (PartP p) := by unfold PartP; exact inferInstance
/-! ### The quotient -/
theorem dd_strictI {l : List Int} (h : l.Pairwise (· ≤ ·)) : (dd l).Pairwise (· < ·) := by
  have hp : ∀ i j : Nat, i < j → j < l.length → nth l i ≤ nth l j := fun i j hij hj => by
    rw [nth_eq hj, nth_eq (by omega)]
    exact List.pairwise_iff_getElem.1 h i j (by omega) hj hij
  have key : ∀ k : Nat, k ≤ l.length → (ddTo l k).Pairwise (· < ·) := by
    intro k
    induction k with
    | zero => intro _; simp [ddTo]
    | succ k ih =>
      intro hk
      have ih := ih (by omega)
      simp only [ddTo]
      split
      · exact ih
      · rename_i hne
        rw [List.pairwise_append]
        refine ⟨ih, by simp, fun y hy z hz => ?_⟩
        rw [List.mem_singleton] at hz
        subst hz
        rw [ddTo_mem (by omega)] at hy
        obtain ⟨i, hi, rfl⟩ := List.getElem_of_mem hy
        rw [List.length_take] at hi
        have e : (l.take k)[i] = nth l i := by rw [List.getElem_take, nth_eq (by omega)]
        rw [e]
        have h0 : 0 < k := by omega
        have hn : nth l k ≠ nth l (k - 1 : Int) := fun he => hne ⟨h0, he⟩
        have e1 : ((k : Int) - 1) = ((k - 1 : Nat) : Int) := by omega
        rw [e1] at hn
        have l1 := hp (k - 1) k (by omega) (by omega)
        by_cases hik : i = k - 1
        · rw [hik]; omega
        · have l2 := hp i (k - 1) (by omega) (by omega); omega
  exact key _ (Nat.le_refl _)
/-! ### Distances under a map of states -/
/-! ### Bisimulations -/
end Go.Eng
end

section
/- Shrinking: what the walks need. -/

namespace Go.Eng
open Go
/-! ### The reference's quotient -/
end Go.Eng
end

section
/- STRIPS tasks. -/

namespace Go.Eng
open Go
structure SOp where
  pre : List Int
  add : List Int
  del : List Int
  cost : Int
deriving DecidableEq
instance : Inhabited SOp := ⟨⟨[], [], [], 0⟩⟩
structure Tsk where
  facts : Int
  ini : List Int
  goal : List Int
  ops : List SOp
deriving DecidableEq
instance : Inhabited Tsk := ⟨⟨0, [], [], []⟩⟩
abbrev sopC (o : SOp) : List D := [ints o.pre, ints o.add, ints o.del, .v (.int .i64 o.cost)]
abbrev sopS (o : SOp) : S := .g [.d (ints o.pre), .d (ints o.add), .d (ints o.del), I o.cost]
abbrev sopsD (l : List SOp) : D := .s 4 (l.map sopC)
abbrev tskC (t : Tsk) : List D := [.v (.int .i64 t.facts), ints t.ini, ints t.goal, sopsD t.ops]
abbrev tskS (t : Tsk) : S := .g [I t.facts, .d (ints t.ini), .d (ints t.goal), .d (sopsD t.ops)]
/-! ### Binary search -/
def lbd (l : List Int) (x : Int) : Nat := (l.filter fun y => decide (y < x)).length
theorem lbd_le {l : List Int} {x : Int} : lbd l x ≤ l.length := List.length_filter_le _ _
theorem lbd_cons {l : List Int} {x y : Int} : lbd (y :: l) x = if y < x then lbd l x + 1 else lbd l x := by
  unfold lbd
  by_cases h : y < x <;> simp [List.filter_cons, h]
theorem lbd_iff {x : Int} : ∀ {l : List Int}, l.Pairwise (· < ·) → ∀ {i : Nat}, i < l.length → (nth l i < x ↔ i < lbd l x)
  | [], _, i, h => by simp at h
  | y :: l, hp, i, hi => by
    rw [List.pairwise_cons] at hp
    have h0 : y < x ∨ lbd l x = 0 := by
      by_cases h : y < x
      · exact .inl h
      · right
        unfold lbd
        rw [List.filter_eq_nil_iff.2 (fun z hz => by have := hp.1 z hz; simp; omega)]; rfl
    rw [lbd_cons]
    cases i with
    | zero =>
      show y < x ↔ _
      by_cases h : y < x
      · simp [h]
      · rcases h0 with h0 | h0
        · exact absurd h0 h
        · simp [h, h0]
    | succ i =>
      have e : nth (y :: l) ((i + 1 : Nat) : Int) = nth l i := by simp [nth]
      rw [e, lbd_iff hp.2 (by simpa using hi)]
      rcases h0 with h0 | h0
      · rw [if_pos h0]; omega
      · by_cases h : y < x
        · rw [if_pos h]; omega
        · rw [if_neg h]; omega
theorem lbd_mem {l : List Int} {x : Int} (hp : l.Pairwise (· < ·)) : x ∈ l ↔ lbd l x < l.length ∧ nth l (lbd l x) = x := by
  constructor
  · intro h
    obtain ⟨i, hi, he⟩ := List.getElem_of_mem h
    have hx : nth l i = x := by rw [nth_eq hi, he]
    have h1 := lbd_iff (x := x) hp hi
    have h2 : lbd l x ≤ i := by
      have : ¬ i < lbd l x := fun hh => by have := h1.2 hh; omega
      omega
    refine ⟨by omega, ?_⟩
    by_cases e : lbd l x = i
    · rw [e]; exact hx
    · have h3 : ¬ nth l (lbd l x) < x := fun hh => by have := (lbd_iff (x := x) hp (show lbd l x < l.length by omega)).1 hh; omega
      have h4 := List.pairwise_iff_getElem.1 hp (lbd l x) i (by omega) hi (by omega)
      rw [← nth_eq (by omega), ← nth_eq hi] at h4
      omega
  · rintro ⟨h1, h2⟩
    rw [← h2]
    exact nth_mem (by omega) (by omega)
/-! ### Faults of tasks -/
def DisjP (a b : List Int) : Prop := ∀ i : Nat, i < a.length → nth a i ∉ b
instance {a b : List Int} : Decidable (DisjP a b) := by unfold DisjP; exact inferInstance
def opCode (n : Int) (o : SOp) : Int := if ¬ (SetP n o.pre ∧ SetP n o.add ∧ SetP n o.del ∧ DisjP o.add o.del) then 5 else if o.cost < 0 ∨ 100 < o.cost then 3 else 0
def sopsF (t : Tsk) : Int × Int := firstF (fun k => if opCode t.facts (nth t.ops k) = 0 then (0, 0) else (opCode t.facts (nth t.ops k), (k : Int))) t.ops.length
def tskF (t : Tsk) : Int × Int :=
  if t.facts < 0 ∨ 24 < t.facts then (3, -1) else if ¬ SetP t.facts t.ini then (5, -2) else if ¬ SetP t.facts t.goal then (5, -3) else if 40 < t.ops.length then (2, -1) else sopsF t
def PlanP (n : Int) (l : List Int) : Prop := ∀ k : Nat, k < l.length → 0 ≤ nth l k ∧ nth l k < n
instance {n : Int} {l : List Int} : Decidable (PlanP n l) := by unfold PlanP; exact inferInstance
def stepsF2 (n : Int) (l : List Int) : Int × Int := if 60 < l.length then (2, -5) else if PlanP n l then (0, 0) else (3, -6)
def planF2 (t : Tsk) (l : List Int) : Int × Int := if tskF t = (0, 0) then stepsF2 t.ops.length l else tskF t
theorem opCode_5 {n : Int} {o : SOp} (h : ¬ (SetP n o.pre ∧ SetP n o.add ∧ SetP n o.del ∧ DisjP o.add o.del)) : opCode n o = 5 := by unfold opCode; rw [if_pos h]
theorem opCode_3 {n : Int} {o : SOp} (h : SetP n o.pre ∧ SetP n o.add ∧ SetP n o.del ∧ DisjP o.add o.del) (h2 : o.cost < 0 ∨ 100 < o.cost) : opCode n o = 3 := by unfold opCode; rw [if_neg (fun hn => hn h), if_pos h2]
theorem opCode_0 {n : Int} {o : SOp} (h : SetP n o.pre ∧ SetP n o.add ∧ SetP n o.del ∧ DisjP o.add o.del) (h2 : ¬ (o.cost < 0 ∨ 100 < o.cost)) : opCode n o = 0 := by unfold opCode; rw [if_neg (fun hn => hn h), if_neg h2]
section
variable {t : Tsk}
theorem tskF_1 (h : t.facts < 0 ∨ 24 < t.facts) : (3, -1) = tskF t := by unfold tskF; rw [if_pos h]
theorem tskF_2 (h : ¬ (t.facts < 0 ∨ 24 < t.facts)) (h2 : ¬ SetP t.facts t.ini) : (5, -2) = tskF t := by unfold tskF; rw [if_neg h, if_pos h2]
theorem tskF_3 (h : ¬ (t.facts < 0 ∨ 24 < t.facts)) (h2 : SetP t.facts t.ini) (h3 : ¬ SetP t.facts t.goal) : (5, -3) = tskF t := by unfold tskF; rw [if_neg h, if_neg (fun hn => hn h2), if_pos h3]
theorem tskF_4 (h : ¬ (t.facts < 0 ∨ 24 < t.facts)) (h2 : SetP t.facts t.ini) (h3 : SetP t.facts t.goal) (h4 : 40 < t.ops.length) : (2, -1) = tskF t := by unfold tskF; rw [if_neg h, if_neg (fun hn => hn h2), if_neg (fun hn => hn h3), if_pos h4]
theorem tskF_5 (h : ¬ (t.facts < 0 ∨ 24 < t.facts)) (h2 : SetP t.facts t.ini) (h3 : SetP t.facts t.goal) (h4 : ¬ 40 < t.ops.length) : tskF t = sopsF t := by unfold tskF; rw [if_neg h, if_neg (fun hn => hn h2), if_neg (fun hn => hn h3), if_neg h4]
theorem sops_bad {k : Nat} (hk : k < t.ops.length) (h : ∀ i : Nat, i < k → opCode t.facts (nth t.ops i) = 0) (hb : opCode t.facts (nth t.ops k) ≠ 0) : (opCode t.facts (nth t.ops k), (k : Int)) = sopsF t := by
  have := firstF_bad (f := fun k => if opCode t.facts (nth t.ops k) = 0 then (0, 0) else (opCode t.facts (nth t.ops k), (k : Int))) hk (fun j hj => if_pos (h j hj)) (by rw [if_neg hb]; intro e; exact hb (congrArg Prod.fst e))
  rw [if_neg hb] at this
  exact this
theorem sops_all (h : ∀ i : Nat, i < t.ops.length → opCode t.facts (nth t.ops i) = 0) : sopsF t = (0, 0) := firstF_of fun j hj => if_pos (h j hj)
end
theorem setP_len {n : Int} {l : List Int} (h : SetP n l) (hn : n ≤ 24) : l.length ≤ 1000000 := by
  have := pw_lt_len (n := n) (x := 0) (setP_sorted h) (fun y hy => setP_mem h hy)
  omega
theorem disj_any {a b : List Int} (h : ∀ x, x ∈ a → x ∉ b) : DisjP a b := fun i hi => h _ (nth_mem (by omega) (by omega))
theorem any_disj {a b : List Int} (h : (a.any fun x => decide (x ∈ b)) = true) (hd : DisjP a b) : False := by
  obtain ⟨x, hx, hb⟩ := List.any_eq_true.1 h
  obtain ⟨i, hi, rfl⟩ := List.getElem_of_mem hx
  have := hd i hi
  rw [nth_eq hi] at this
  exact this (by simpa using hb)
theorem steps_2 {n : Int} {l : List Int} (h : 60 < l.length) : (2, -5) = stepsF2 n l := by unfold stepsF2; rw [if_pos h]
theorem steps_3 {n : Int} {l : List Int} (h : ¬ 60 < l.length) (hp : ¬ PlanP n l) : (3, -6) = stepsF2 n l := by unfold stepsF2; rw [if_neg h, if_neg hp]
theorem steps_0 {n : Int} {l : List Int} (h : ¬ 60 < l.length) (hp : PlanP n l) : (0, 0) = stepsF2 n l := by unfold stepsF2; rw [if_neg h, if_pos hp]
theorem planF2_1 {t : Tsk} {l : List Int} (h : tskF t ≠ (0, 0)) : tskF t = planF2 t l := by unfold planF2; rw [if_neg h]
theorem planF2_0 {t : Tsk} {l : List Int} (h : tskF t = (0, 0)) : stepsF2 t.ops.length l = planF2 t l := by unfold planF2; rw [if_pos h]
theorem opCode_c {n : Int} {o : SOp} {k : Int} : (if opCode n o = 0 then ((0, 0) : Int × Int) else (opCode n o, k)).1 = 0 → (if opCode n o = 0 then ((0, 0) : Int × Int) else (opCode n o, k)) = (0, 0) := by
  by_cases h : opCode n o = 0
  · rw [if_pos h]; exact fun _ => rfl
  · rw [if_neg h]; exact fun hh => absurd hh h
theorem tskF_inv {t : Tsk} (h : (tskF t).1 = 0) : (0 ≤ t.facts ∧ t.facts ≤ 24) ∧ SetP t.facts t.ini ∧ SetP t.facts t.goal ∧ t.ops.length ≤ 40 ∧ sopsF t = (0, 0) ∧ tskF t = (0, 0) := by
  by_cases h1 : t.facts < 0 ∨ 24 < t.facts
  · rw [← tskF_1 h1] at h; simp at h
  · by_cases h2 : SetP t.facts t.ini
    · by_cases h3 : SetP t.facts t.goal
      · by_cases h4 : 40 < t.ops.length
        · rw [← tskF_4 h1 h2 h3 h4] at h; simp at h
        · rw [tskF_5 h1 h2 h3 h4] at h ⊢
          have := firstF_code (fun j => opCode_c) h
          exact ⟨by omega, h2, h3, by omega, this, this⟩
      · rw [← tskF_3 h1 h2 h3] at h; simp at h
    · rw [← tskF_2 h1 h2] at h; simp at h
theorem tskF_code {t : Tsk} (h : (tskF t).1 = 0) : tskF t = (0, 0) := (tskF_inv h).2.2.2.2.2
theorem tskF_ops {t : Tsk} (h : tskF t = (0, 0)) : t.ops.length ≤ 40 := (tskF_inv (congrArg Prod.fst h)).2.2.2.1
theorem planF2_ok {t : Tsk} {l : List Int} (h : planF2 t l = (0, 0)) : tskF t = (0, 0) ∧ l.length ≤ 60 ∧ PlanP t.ops.length l := by
  unfold planF2 at h
  by_cases h1 : tskF t = (0, 0)
  · rw [if_pos h1] at h
    unfold stepsF2 at h
    by_cases h2 : 60 < l.length
    · rw [if_pos h2] at h; simp at h
    · rw [if_neg h2] at h
      by_cases h3 : PlanP t.ops.length l
      · exact ⟨h1, by omega, h3⟩
      · rw [if_neg h3] at h; simp at h
  · rw [if_neg h1] at h; exact absurd h h1
/-! ### Counts -/
def cntTo (n : Nat) (l : List Int) (k : Nat) : List Int := (List.range n).map fun (x : Nat) => (((l.take k).filter fun y => decide (y = (x : Int))).length : Int)
def cntR (t : Tsk) (l : List Int) : List Int := if planF2 t l = (0, 0) then cntTo t.ops.length l l.length else []
theorem cntR_0 {t : Tsk} {l : List Int} (h : planF2 t l = (0, 0)) : cntR t l = cntTo t.ops.length l l.length := by unfold cntR; rw [if_pos h]
theorem cntR_1 {t : Tsk} {l : List Int} (h : planF2 t l ≠ (0, 0)) : cntR t l = [] := by unfold cntR; rw [if_neg h]
theorem cntTo_len {n : Nat} {l : List Int} {k : Nat} : (cntTo n l k).length = n := by simp [cntTo]
theorem cntTo_0 {n : Nat} {l : List Int} : cntTo n l 0 = List.replicate n 0 := by
  apply List.ext_getElem (by simp [cntTo])
  intro i h1 h2; simp [cntTo]
theorem cntTo_at {n : Nat} {l : List Int} {k x : Nat} (h : x < n) : nth (cntTo n l k) x = (((l.take k).filter fun y => decide (y = (x : Int))).length : Int) := by
  rw [nth_eq (by rw [cntTo_len]; exact h)]; simp [cntTo]
theorem cntTo_le {n : Nat} {l : List Int} {k : Nat} {x : Int} (h0 : 0 ≤ x) (h1 : x < n) : 0 ≤ nth (cntTo n l k) x ∧ nth (cntTo n l k) x ≤ k := by
  obtain ⟨y, rfl⟩ := Int.eq_ofNat_of_zero_le h0
  rw [cntTo_at (by omega)]
  have := List.length_filter_le (fun z => decide (z = (y : Int))) (l.take k)
  simp only [List.length_take] at this
  omega
theorem cntTo_s {n : Nat} {l : List Int} {k : Nat} (hk : k < l.length) (h0 : 0 ≤ nth l k) (h1 : nth l k < n) : (cntTo n l k).set (nth l k).toNat (nth (cntTo n l k) (nth l k) + 1) = cntTo n l (k + 1) := by
  obtain ⟨y, hy⟩ := Int.eq_ofNat_of_zero_le h0
  have hyn : y < n := by omega
  rw [hy, cntTo_at hyn]
  apply List.ext_getElem (by simp [cntTo])
  intro i h2 h3
  rw [List.getElem_set]
  simp only [Int.toNat_natCast, cntTo, List.getElem_map, List.getElem_range]
  rw [tk_s hk, List.filter_append, List.length_append, hy]
  by_cases e : y = i
  · subst e; simp
  · rw [if_neg e]
    have : ¬ (y : Int) = (i : Int) := by omega
    simp [this]
end Go.Eng
end

section
/- Walks, written by gen.py out of hints. -/




namespace Go.Proofs.Ytlidcpmdgceboaa
open Go.Eng
set_option maxRecDepth 10000
set_option maxHeartbeats 1000000

theorem slices_isNaN_int_does (x : Int) : Does Try.prog false 103 [I (x)] (Bo false) := by
 refine Does.of_body Try.func103 rfl rfl (by simp) Try.call103 (fun w0 O0 => ?_); refine .seq ?_; refine .region ?_; refine .a ?_; refine .z ?_; refine .m ?_; refine .m ?_; refine .x (.b bneq) ?_; refine .a ?_; refine .sq ?_; refine .ret ?_; exact .ret rfl (.tmp rfl <| .nil) rfl (Le.bo (by simp))

theorem cmp_Less_int_does (x y : Int) : Does Try.prog false 102 [I (x), I (y)] (Bo (decide (x < y))) := by
 refine Does.of_body Try.func102 rfl rfl (by simp) Try.call102 (fun w0 O0 => ?_); refine .seq ?_; refine .region ?_; refine .a ?_; refine .z ?_; refine .m ?_; refine .x (OpSem.call0 (cmp_isNaN_int_does x) rfl rfl rfl rfl (Les.refl _)) ?_; refine .m ?_; refine .gf rfl ?_; refine .gf rfl ?_; refine .gf rfl ?_; refine .x (OpSem.pickF rfl rfl rfl rfl) ?_; refine .m ?_; refine .ht rfl ?_; refine .m ?_; refine .ht rfl ?_; refine .m ?_; refine .ht rfl ?_; refine .x (.b blss) ?_; refine .x (OpSem.pickF rfl rfl rfl rfl) ?_; refine .a ?_; refine .sq ?_; refine .ret ?_; exact .ret rfl (.tmp rfl <| .nil) rfl (.refl _)

theorem slices_BinarySearch_int_int_does (l : List Int) (x : Int) (hp : l.Pairwise (· < ·)) (hl : l.length ≤ 1000000) : Does Try.prog false 99 [.d (ints l), I (x)] (.t [I (lbd l x : Int), Bo (decide (x ∈ l))]) := by
 have hmem := lbd_mem (x := x) hp
 have hle := lbd_le (l := l) (x := x)
 refine Does.of_body Try.func99 rfl rfl (by simp) Try.call99 (fun w0 O0 => ?_); refine .lenLe (n := 0) rfl (fun len0 => ?_); refine .seq ?_; refine .region ?_; refine .a ?_; refine .a ?_; refine .z ?_; refine .m ?_; refine .x (OpSem.lenL rfl rfl es22) ?_; refine .a ?_; refine .z ?_; refine .m ?_; refine .a ?_; refine .a ?_; refine .sq ?_; refine .seq ?_; refine .block ?_; refine .loop (X := (Nat × Nat)) (fun q => q.1 ≤ lbd l x ∧ lbd l x ≤ q.2 ∧ q.2 ≤ l.length) (fun q => [(0, .d (ints l)), (1, I (x)), (6, I (l.length)), (7, I (q.1)), (8, I (q.2))]) (fun q => []) (fun q => q.2 - q.1) (0, l.length) ⟨by omega, lbd_le, Nat.le_refl _⟩ ?_ ?_
 ·exact .sl <| .sl <| .sl <| .slot rfl (Le.of_eq (by simp)) <| .slot rfl (Le.of_eq (by simp)) <| .nil
 ·rintro q ⟨h1, h2, h3⟩
  refine .seq ?_; refine .seq ?_; refine .region ?_; refine .m ?_; refine .m ?_; refine .x (.b blss) ?_; refine .sq ?_; refine .cond rfl (fun c15 => ?_) (fun c15 => ?_)
  ·have hq : q.1 < q.2 := by simp at c15; omega
   have hm : ((q.1 : Int) + (q.2 : Int)) / 2 ^ (1 : Int).toNat = ((((q.1 + q.2) / 2) : Nat) : Int) := by first | (simp; done) | (simp; omega) | omega
   have hi := lbd_iff (x := x) hp (i := ((q.1 + q.2) / 2)) (by omega)
   refine .skip ?_; refine .seq ?_; refine .block ?_; refine .seq ?_; refine .region ?_; refine .m ?_; refine .m ?_; refine .x .ad ?_; refine .x (OpSem.conv rfl rfl cv3_124 (wrap_u64 (by omega) (by omega))) ?_; refine .x (OpSem.bin rfl rfl rfl (bshrK (by decide) (by decide))) ?_; refine .x (OpSem.conv rfl rfl cv124_3 (wrap_i64 (by rw [hm]; omega) (by rw [hm]; omega))) ?_; refine .a ?_; refine .z ?_; refine .m ?_; refine .m ?_; refine .x (OpSem.idxL rfl rfl rfl es22 (by rw [hm]; omega) (by rw [hm]; omega)) ?_; refine .x (OpSem.load1 rfl rfl vs3 rfl) ?_; refine .m ?_; refine .x (OpSem.call0 (cmp_Less_int_does ..) rfl rfl rfl rfl (Les.refl _)) ?_; refine .sq ?_; refine .cond rfl (fun c27 => ?_) (fun c27 => ?_)
   ·have h4 : ((q.1 + q.2) / 2) < lbd l x := hi.1 (by rw [← hm]; simpa using c27)
    refine .region ?_; refine .m ?_; refine .x (OpSem.bin rfl rfl rfl (badd (by rw [hm]; omega) (by rw [hm]; omega))) ?_; refine .a ?_; refine .nil ?_; refine .block_normal ?_; refine .again (((q.1 + q.2) / 2) + 1, q.2) ⟨by omega, by omega, by omega⟩ ?_ (by simp only []; omega)
    exact .sl <| .sl <| .sl <| .slot rfl (Le.i (by rw [hm]; simp)) <| .sl <| .nil
   ·have h4 : ¬ ((q.1 + q.2) / 2) < lbd l x := fun h => by have h6 := hi.2 h; rw [← hm] at h6; exact (of_decide_eq_false c27) h6
    refine .region ?_; refine .m ?_; refine .a ?_; refine .nil ?_; refine .block_normal ?_; refine .again (q.1, ((q.1 + q.2) / 2)) ⟨by omega, by omega, by omega⟩ ?_ (by simp only []; omega)
    exact .sl <| .sl <| .sl <| .sl <| .slot rfl (Le.i hm) <| .nil
  ·have hq : q.1 = lbd l x := by simp at c15; omega
   refine .exit ?_; refine .pass_exit ?_; refine .pass_exit ?_; refine .block_same ?_; refine .z ?_; refine .m ?_; refine .m ?_; refine .m ?_; refine .x (.b blss) ?_; refine .m ?_; refine .split (n := 35) rfl (fun c35 => ?_) (fun c35 => ?_)
   ·refine .gt c35 ?_; refine .m ?_; refine .gt c35 ?_; refine .m ?_; refine .gt c35 ?_; refine .x (OpSem.idxL rfl rfl rfl es22 (by omega) (by simp at c35; omega)) ?_; refine .gt c35 ?_; refine .x (OpSem.load1 rfl rfl vs3 rfl) ?_; refine .gt c35 ?_; refine .m ?_; refine .gt c35 ?_; refine .x (.b beql) ?_; refine .gt c35 ?_; refine .m ?_; refine .split (n := 42) rfl (fun c42 => ?_) (fun c42 => ?_)
    ·refine .hf c42 ?_; refine .hf c42 ?_; refine .hf c42 ?_; refine .hf c42 ?_; refine .hf c42 ?_; refine .hf c42 ?_; refine .gu ?_; refine .gu ?_; refine .hf c42 ?_; refine .gt c35 ?_; refine .x (OpSem.pickT rfl rfl c42 rfl) ?_; refine .x (OpSem.pickT rfl rfl c35 rfl) ?_; refine .a ?_; refine .a ?_; refine .sq ?_; refine .ret ?_; exact .ret rfl (.tmp rfl <| .tmp rfl <| .nil) rfl (Le.t (.cons (Le.i (by rw [hq])) <| .cons (Le.bo (by first | exact (decide_eq_true (hmem.2 ⟨by simp at c35; omega, by rw [← hq]; simpa using c42⟩)).symm | exact (decide_eq_false (fun h => by have h5 := hmem.1 h; rw [← hq] at h5; simp [h5.2] at c42)).symm | exact (decide_eq_false (fun h => by have h5 := hmem.1 h; simp at c35; omega)).symm)) <| .nil))
    ·refine .ht c42 ?_; refine .m ?_; refine .ht c42 ?_; refine .m ?_; refine .ht c42 ?_; refine .x (OpSem.idxL rfl rfl rfl es22 (by omega) (by simp at c35; omega)) ?_; refine .ht c42 ?_; refine .x (OpSem.load1 rfl rfl vs3 rfl) ?_; refine .ht c42 ?_; refine .x (OpSem.call0 (slices_isNaN_int_does ..) rfl rfl rfl rfl (Les.refl _)) ?_; refine .ht c42 ?_; refine .m ?_; refine .gf rfl ?_; refine .gf rfl ?_; refine .ht c42 ?_; refine .x (OpSem.pickF rfl rfl rfl rfl) ?_; refine .gt c35 ?_; refine .x (OpSem.pickF rfl rfl c42 rfl) ?_; refine .x (OpSem.pickT rfl rfl c35 rfl) ?_; refine .a ?_; refine .a ?_; refine .sq ?_; refine .ret ?_; exact .ret rfl (.tmp rfl <| .tmp rfl <| .nil) rfl (Le.t (.cons (Le.i (by rw [hq])) <| .cons (Le.bo (by first | exact (decide_eq_true (hmem.2 ⟨by simp at c35; omega, by rw [← hq]; simpa using c42⟩)).symm | exact (decide_eq_false (fun h => by have h5 := hmem.1 h; rw [← hq] at h5; simp [h5.2] at c42)).symm | exact (decide_eq_false (fun h => by have h5 := hmem.1 h; simp at c35; omega)).symm)) <| .nil))
   ·refine .gf c35 ?_; refine .gf c35 ?_; refine .gf c35 ?_; refine .gf c35 ?_; refine .gf c35 ?_; refine .gf c35 ?_; refine .gf c35 ?_; refine .gu ?_; refine .gu ?_; refine .gu ?_; refine .gu ?_; refine .gu ?_; refine .gu ?_; refine .gu ?_; refine .gu ?_; refine .gu ?_; refine .gf c35 ?_; refine .x (OpSem.pickF rfl rfl c35 rfl) ?_; refine .a ?_; refine .a ?_; refine .sq ?_; refine .ret ?_; exact .ret rfl (.tmp rfl <| .tmp rfl <| .nil) rfl (Le.t (.cons (Le.i (by rw [hq])) <| .cons (Le.bo (by first | exact (decide_eq_true (hmem.2 ⟨by simp at c35; omega, by rw [← hq]; simpa using c42⟩)).symm | exact (decide_eq_false (fun h => by have h5 := hmem.1 h; rw [← hq] at h5; simp [h5.2] at c42)).symm | exact (decide_eq_false (fun h => by have h5 := hmem.1 h; simp at c35; omega)).symm)) <| .nil))

theorem strips_Meets_1_does (x : Int) (b : List Int) (hp : b.Pairwise (· < ·)) (hl : b.length ≤ 1000000) : Does Try.prog false 98 [I (x), .p [ints b]] (Bo (decide (x ∈ b))) := by
 refine Does.of_body Try.func98 rfl rfl (by simp) Try.call98 (fun w0 O0 => ?_); refine .seq ?_; refine .region ?_; refine .a ?_; refine .z ?_; refine .x (OpSem.load1 rfl rfl vs22 rfl) ?_; refine .m ?_; refine .x (OpSem.call0 (slices_BinarySearch_int_int_does b x hp hl) rfl rfl rfl rfl (Les.refl _)) ?_; refine .m ?_; refine .x (OpSem.extract rfl rfl rfl) ?_; refine .x (OpSem.extract rfl rfl rfl) ?_; refine .a ?_; refine .a ?_; refine .z ?_; refine .m ?_; refine .a ?_; refine .sq ?_; refine .ret ?_; exact .ret rfl (.tmp rfl <| .nil) rfl (.refl _)

theorem strips_Meets_does (a b : List Int) (hp : b.Pairwise (· < ·)) (hl : b.length ≤ 1000000) : Does Try.prog false 88 [.d (ints a), .d (ints b)] (Bo (a.any fun x => decide (x ∈ b))) := by
 refine Does.of_body Try.func88 rfl rfl (by simp) Try.call88 (fun w0 O0 => ?_); refine .lenLe (n := 0) rfl (fun len0 => ?_); refine .lenLe (n := 1) rfl (fun len1 => ?_); refine .seq ?_; refine .region ?_; refine .semM (OpSem.box 3 rfl rfl rfl rfl) rfl rfl (by decide) ?_; refine .a ?_; refine .sq ?_; refine .seq ?_; refine .freezeR 3 rfl rfl ?_; refine .region ?_; refine .m ?_; refine .x (OpSem.makeFunc rfl rfl rfl) ?_; refine .x (OpSem.call (slices_ContainsFunc_int_int_does a 98 [.p [ints b]] (fun x => decide (x ∈ b)) (caught_p _) (fun x _ => strips_Meets_1_does x b hp hl)) (.inr rfl) rfl rfl rfl rfl (Les.refl _)) ?_; refine .a ?_; refine .sq ?_; refine .ret ?_; exact .ret rfl (.tmp rfl <| .nil) rfl (.refl _)

theorem strips_operator_does (o : SOp) (n : Int) (h0 : 0 ≤ n) (hn : n ≤ 24) : Does Try.prog false 62 [sopS o, I (n)] (I (opCode n o)) := by
 refine Does.of_body Try.func62 rfl rfl (by simp) Try.call62 (fun w0 O0 => ?_); refine .lenG (n := 0) (i := 0) rfl rfl (fun len0_0 => ?_); refine .lenG (n := 0) (i := 1) rfl rfl (fun len0_1 => ?_); refine .lenG (n := 0) (i := 2) rfl rfl (fun len0_2 => ?_); refine .seq ?_; refine .region ?_; refine .semM (OpSem.box 2 rfl rfl rfl rfl) rfl rfl (by decide) ?_; refine .a ?_; refine .sq ?_; refine .seq ?_; refine .block ?_; refine .seq ?_; refine .region ?_; refine .x (.f fo35_0) ?_; refine .x (.l vs22) ?_; refine .m ?_; refine .x (OpSem.call0 (strips_IsSet_does o.pre n) rfl rfl rfl rfl (Les.refl _)) ?_; refine .x (OpSem.not rfl rfl) ?_; refine .m ?_; refine .split (n := 11) rfl (fun c11 => ?_) (fun c11 => ?_)
 ·refine .hf c11 ?_; refine .hf c11 ?_; refine .hf c11 ?_; refine .hf c11 ?_; refine .hf c11 ?_; refine .x (OpSem.pickT rfl rfl c11 rfl) ?_; refine .m ?_; refine .hf rfl ?_; refine .hf rfl ?_; refine .hf rfl ?_; refine .hf rfl ?_; refine .hf rfl ?_; refine .x (OpSem.pickT rfl rfl rfl rfl) ?_; refine .m ?_; refine .hf rfl ?_; refine .hf rfl ?_; refine .hf rfl ?_; refine .hf rfl ?_; refine .hf rfl ?_; refine .x (OpSem.pickT rfl rfl rfl rfl) ?_; refine .a ?_; refine .sq ?_; refine .condT rfl rfl ?_; refine .seq ?_; refine .region ?_; refine .a ?_; refine .sq ?_; refine .ret ?_; refine .block_ret ?_; refine .pass_ret ?_; exact .ret rfl (.tmp rfl <| .nil) rfl (Le.i (opCode_5 (fun h => by have := h.1; rw [decide_eq_true this] at c11; simp at c11)).symm)
 ·have s1 : SetP n o.pre := by simpa using c11
  refine .ht c11 ?_; refine .x (.f fo35_1) ?_; refine .ht c11 ?_; refine .x (.l vs22) ?_; refine .ht c11 ?_; refine .m ?_; refine .ht c11 ?_; refine .x (OpSem.call0 (strips_IsSet_does o.add n) rfl rfl rfl rfl (Les.refl _)) ?_; refine .ht c11 ?_; refine .x (OpSem.not rfl rfl) ?_; refine .x (OpSem.pickF rfl rfl c11 rfl) ?_; refine .m ?_; refine .split (n := 18) rfl (fun c18 => ?_) (fun c18 => ?_)
  ·refine .hf c18 ?_; refine .hf c18 ?_; refine .hf c18 ?_; refine .hf c18 ?_; refine .hf c18 ?_; refine .x (OpSem.pickT rfl rfl c18 rfl) ?_; refine .m ?_; refine .hf rfl ?_; refine .hf rfl ?_; refine .hf rfl ?_; refine .hf rfl ?_; refine .hf rfl ?_; refine .x (OpSem.pickT rfl rfl rfl rfl) ?_; refine .a ?_; refine .sq ?_; refine .condT rfl rfl ?_; refine .seq ?_; refine .region ?_; refine .a ?_; refine .sq ?_; refine .ret ?_; refine .block_ret ?_; refine .pass_ret ?_; exact .ret rfl (.tmp rfl <| .nil) rfl (Le.i (opCode_5 (fun h => by have := h.2.1; rw [decide_eq_true this] at c18; simp at c18)).symm)
  ·have s2 : SetP n o.add := by simpa using c18
   refine .ht c18 ?_; refine .x (.f fo35_2) ?_; refine .ht c18 ?_; refine .x (.l vs22) ?_; refine .ht c18 ?_; refine .m ?_; refine .ht c18 ?_; refine .x (OpSem.call0 (strips_IsSet_does o.del n) rfl rfl rfl rfl (Les.refl _)) ?_; refine .ht c18 ?_; refine .x (OpSem.not rfl rfl) ?_; refine .x (OpSem.pickF rfl rfl c18 rfl) ?_; refine .m ?_; refine .split (n := 25) rfl (fun c25 => ?_) (fun c25 => ?_)
   ·refine .hf c25 ?_; refine .hf c25 ?_; refine .hf c25 ?_; refine .hf c25 ?_; refine .hf c25 ?_; refine .x (OpSem.pickT rfl rfl c25 rfl) ?_; refine .a ?_; refine .sq ?_; refine .condT rfl rfl ?_; refine .seq ?_; refine .region ?_; refine .a ?_; refine .sq ?_; refine .ret ?_; refine .block_ret ?_; refine .pass_ret ?_; exact .ret rfl (.tmp rfl <| .nil) rfl (Le.i (opCode_5 (fun h => by have := h.2.2.1; rw [decide_eq_true this] at c25; simp at c25)).symm)
   ·have s3 : SetP n o.del := by simpa using c25
    refine .ht c25 ?_; refine .x (.f fo35_1) ?_; refine .ht c25 ?_; refine .x (.l vs22) ?_; refine .ht c25 ?_; refine .x (.f fo35_2) ?_; refine .ht c25 ?_; refine .x (.l vs22) ?_; refine .ht c25 ?_; refine .x (OpSem.call0 (strips_Meets_does o.add o.del (setP_sorted s3) (setP_len s3 hn)) rfl rfl rfl rfl (Les.refl _)) ?_; refine .x (OpSem.pickF rfl rfl c25 rfl) ?_; refine .a ?_; refine .sq ?_; refine .cond rfl (fun c5 => ?_) (fun c5 => ?_)
    ·refine .seq ?_; refine .region ?_; refine .a ?_; refine .sq ?_; refine .ret ?_; refine .block_ret ?_; refine .pass_ret ?_; exact .ret rfl (.tmp rfl <| .nil) rfl (Le.i (opCode_5 (fun h => any_disj c5 h.2.2.2)).symm)
    ·have s4 : DisjP o.add o.del := disj_any (by simpa using c5)
     have sA := And.intro s1 (And.intro s2 (And.intro s3 s4))
     refine .seq ?_; refine .region ?_; refine .x (.f fo35_3) ?_; refine .x (.l vs3) ?_; refine .x (.b blss) ?_; refine .m ?_; refine .split (n := 36) rfl (fun c36 => ?_) (fun c36 => ?_)
     ·refine .hf c36 ?_; refine .hf c36 ?_; refine .hf c36 ?_; refine .x (OpSem.pickT rfl rfl c36 rfl) ?_; refine .a ?_; refine .sq ?_; refine .condT rfl rfl ?_; refine .seq ?_; refine .region ?_; refine .a ?_; refine .sq ?_; refine .ret ?_; refine .block_ret ?_; refine .pass_ret ?_; exact .ret rfl (.tmp rfl <| .nil) rfl (Le.i (opCode_3 sA (by simp at c36; omega)).symm)
     ·refine .ht c36 ?_; refine .x (.f fo35_3) ?_; refine .ht c36 ?_; refine .x (.l vs3) ?_; refine .ht c36 ?_; refine .x (.b bgtr) ?_; refine .x (OpSem.pickF rfl rfl c36 rfl) ?_; refine .a ?_; refine .sq ?_; refine .cond rfl (fun c32 => ?_) (fun c32 => ?_)
      ·refine .seq ?_; refine .region ?_; refine .a ?_; refine .sq ?_; refine .ret ?_; refine .block_ret ?_; refine .pass_ret ?_; exact .ret rfl (.tmp rfl <| .nil) rfl (Le.i (opCode_3 sA (by simp at c32; omega)).symm)
      ·refine .skip ?_; refine .block_normal ?_; refine .z ?_; refine .a ?_; refine .sq ?_; refine .ret ?_; exact .ret rfl (.tmp rfl <| .nil) rfl (Le.i (opCode_0 sA (by simp at c36 c32; omega)).symm)

theorem strips_Validate_does (t : Tsk) : Does Try.prog false 28 [tskS t] (flt (tskF t)) := by
 refine Does.of_body Try.func28 rfl rfl (by simp) Try.call28 (fun w0 O0 => ?_); refine .lenG (n := 0) (i := 1) rfl rfl (fun len0_1 => ?_); refine .lenG (n := 0) (i := 2) rfl rfl (fun len0_2 => ?_); refine .lenG (n := 0) (i := 3) rfl rfl (fun len0_3 => ?_); refine .seq ?_; refine .region ?_; refine .semM (OpSem.box 1 rfl rfl rfl rfl) rfl rfl (by decide) ?_; refine .semM (OpSem.alloc 2 rfl zc30 rfl) rfl rfl (by decide) ?_; refine .sq ?_; refine .seq ?_; refine .block ?_; refine .seq ?_; refine .region ?_; refine .x (.f fo25_0) ?_; refine .x (.l vs3) ?_; refine .x (.b blss) ?_; refine .m ?_; refine .split (n := 10) rfl (fun c10 => ?_) (fun c10 => ?_)
 ·refine .hf c10 ?_; refine .hf c10 ?_; refine .hf c10 ?_; refine .x (OpSem.pickT rfl rfl c10 rfl) ?_; refine .a ?_; refine .sq ?_; refine .condT rfl rfl ?_; refine .seq ?_; refine .region ?_; refine .x (OpSem.build rfl rfl pl30 zc30 rfl rfl) ?_; refine .sb vs30 ?_; refine .sq ?_; refine .ret ?_; refine .block_ret ?_; refine .pass_ret ?_; exact .ret rfl (.cellN rfl rfl vs30 <| .nil) rfl (Le.flt (tskF_1 (by simp at c10; omega)))
 ·refine .ht c10 ?_; refine .x (.f fo25_0) ?_; refine .ht c10 ?_; refine .x (.l vs3) ?_; refine .ht c10 ?_; refine .x (.b bgtr) ?_; refine .x (OpSem.pickF rfl rfl c10 rfl) ?_; refine .a ?_; refine .sq ?_; refine .cond rfl (fun c6 => ?_) (fun c6 => ?_)
  ·refine .seq ?_; refine .region ?_; refine .x (OpSem.build rfl rfl pl30 zc30 rfl rfl) ?_; refine .sb vs30 ?_; refine .sq ?_; refine .ret ?_; refine .block_ret ?_; refine .pass_ret ?_; exact .ret rfl (.cellN rfl rfl vs30 <| .nil) rfl (Le.flt (tskF_1 (by simp at c6; omega)))
  ·have s1 : ¬ (t.facts < 0 ∨ 24 < t.facts) := by simp at c10 c6; omega
   refine .seq ?_; refine .region ?_; refine .x (.f fo25_1) ?_; refine .x (.l vs22) ?_; refine .x (.f fo25_0) ?_; refine .x (.l vs3) ?_; refine .x (OpSem.call0 (strips_IsSet_does t.ini t.facts) rfl rfl rfl rfl (Les.refl _)) ?_; refine .x (OpSem.not rfl rfl) ?_; refine .a ?_; refine .sq ?_; refine .cond rfl (fun c16 => ?_) (fun c16 => ?_)
   ·refine .seq ?_; refine .region ?_; refine .x (OpSem.build rfl rfl pl30 zc30 rfl rfl) ?_; refine .sb vs30 ?_; refine .sq ?_; refine .ret ?_; refine .block_ret ?_; refine .pass_ret ?_; exact .ret rfl (.cellN rfl rfl vs30 <| .nil) rfl (Le.flt (tskF_2 s1 (by simpa using c16)))
   ·have s2 : SetP t.facts t.ini := by simpa using c16
    refine .seq ?_; refine .region ?_; refine .x (.f fo25_2) ?_; refine .x (.l vs22) ?_; refine .x (.f fo25_0) ?_; refine .x (.l vs3) ?_; refine .x (OpSem.call0 (strips_IsSet_does t.goal t.facts) rfl rfl rfl rfl (Les.refl _)) ?_; refine .x (OpSem.not rfl rfl) ?_; refine .a ?_; refine .sq ?_; refine .cond rfl (fun c24 => ?_) (fun c24 => ?_)
    ·refine .seq ?_; refine .region ?_; refine .x (OpSem.build rfl rfl pl30 zc30 rfl rfl) ?_; refine .sb vs30 ?_; refine .sq ?_; refine .ret ?_; refine .block_ret ?_; refine .pass_ret ?_; exact .ret rfl (.cellN rfl rfl vs30 <| .nil) rfl (Le.flt (tskF_3 s1 s2 (by simpa using c24)))
    ·have s3 : SetP t.facts t.goal := by simpa using c24
     refine .seq ?_; refine .region ?_; refine .x (.f fo25_3) ?_; refine .x (.l vs23) ?_; refine .x (OpSem.lenL rfl rfl es23) ?_; refine .x (.b bgtr) ?_; refine .a ?_; refine .sq ?_; refine .cond rfl (fun c32 => ?_) (fun c32 => ?_)
     ·refine .seq ?_; refine .region ?_; refine .x (OpSem.build rfl rfl pl30 zc30 rfl rfl) ?_; refine .sb vs30 ?_; refine .sq ?_; refine .ret ?_; refine .block_ret ?_; refine .pass_ret ?_; exact .ret rfl (.cellN rfl rfl vs30 <| .nil) rfl (Le.flt (tskF_4 s1 s2 s3 (by simp at c32; omega)))
     ·have s4 : ¬ 40 < t.ops.length := by simp at c32; omega
      refine .skip ?_; refine .block_normal ?_; refine .seq ?_; refine .seq ?_; refine .seq ?_; refine .region ?_; refine .x (.f fo25_3) ?_; refine .x (.l vs23) ?_; refine .x (OpSem.lenL rfl rfl es23) ?_; refine .m ?_; refine .sq ?_; refine .block ?_; refine .loop (X := Nat) (fun k => k ≤ t.ops.length ∧ ∀ i : Nat, i < k → opCode t.facts (nth t.ops i) = 0) (fun k => [(1, .r 1 0), (2, .r 2 0), (39, .d (sopsD t.ops)), (40, I (t.ops.length)), (41, I (k))]) (fun k => [(1, .box [I (t.facts), .d (ints t.ini), .d (ints t.goal), .d (sopsD t.ops)]), (2, .box [I (0), I (0)])]) (fun k => t.ops.length - k) 0 ⟨by omega, by simp⟩ ?_ ?_
      ·exact .sl <| .sl <| .sl <| .sl <| .slot rfl (Le.of_eq (by simp)) <| .mem rfl <| .mem rfl <| .nil
      ·rintro k ⟨hkl, hinv⟩
       refine .seq ?_; refine .region ?_; refine .x (.b blss) ?_; refine .sq ?_; refine .seq ?_; refine .cond rfl (fun c42 => ?_) (fun c42 => ?_)
       ·have hk : k < t.ops.length := by simpa using c42
        refine .skip ?_; refine .seq ?_; refine .seq ?_; refine .block ?_; refine .seq ?_; refine .region ?_; refine .m ?_; refine .x (OpSem.idxL rfl rfl rfl es23 (by omega) (by omega)) ?_; refine .x (OpSem.loadN rfl rfl vs35 (by first | decide | simp) rfl) ?_; refine .semM (OpSem.alloc 4 rfl zc35 rfl) rfl rfl (by decide) ?_; refine .a ?_; refine .sb vs35 ?_; refine .z ?_; refine .x (OpSem.loadbN rfl rfl rfl vs35 (by first | decide | simp)) ?_; refine .x (.f fo25_0) ?_; refine .x (.l vs3) ?_; refine .x (OpSem.call0 (strips_operator_does (nth t.ops k) t.facts (by omega) (by omega)) rfl rfl rfl rfl (Les.refl _)) ?_; refine .a ?_; refine .z ?_; refine .m ?_; refine .x (.b bneq) ?_; refine .sq ?_; refine .cond rfl (fun c51 => ?_) (fun c51 => ?_)
        ·have hb0 : opCode t.facts (nth t.ops k) ≠ 0 := by simpa using c51
         refine .seq ?_; refine .region ?_; refine .m ?_; refine .m ?_; refine .x (OpSem.build rfl rfl pl30 zc30 rfl rfl) ?_; refine .sb vs30 ?_; refine .sq ?_; refine .ret ?_; refine .block_ret ?_; refine .pass_ret ?_; refine .pass_ret ?_; refine .block_ret ?_; refine .pass_ret ?_; exact .ret rfl (.cellN rfl rfl vs30 <| .nil) rfl (Le.flt (by rw [tskF_5 s1 s2 s3 s4]; exact sops_bad hk hinv hb0))
        ·have hb : opCode t.facts (nth t.ops k) = 0 := by simpa using c51
         refine .skip ?_; refine .block_normal ?_; refine .y ?_; refine .x .ad ?_; refine .m ?_; refine .nil ?_; refine .again (k + 1) ⟨by omega, all_succ hinv hb⟩ ?_ (by omega); exact .sl <| .sl <| .sl <| .sl <| .slot rfl (Le.of_eq (by simp)) <| .mem rfl <| .mem rfl <| .nil
       ·have hk : k = t.ops.length := by simp at c42; omega
        refine .exit ?_; refine .pass_exit ?_; refine .pass_exit ?_; refine .block_same ?_; refine .z ?_; refine .x (OpSem.build rfl rfl pl30 zc30 rfl rfl) ?_; refine .sb vs30 ?_; refine .sq ?_; refine .ret ?_; exact .ret rfl (.cellN rfl rfl vs30 <| .nil) rfl (Le.flt (by rw [tskF_5 s1 s2 s3 s4]; subst hk; exact (sops_all hinv).symm))

theorem strips_Steps_does (n : Int) (l : List Int) : Does Try.prog false 72 [I (n), .d (ints l)] (flt (stepsF2 n l)) := by
 refine Does.of_body Try.func72 rfl rfl (by simp) Try.call72 (fun w0 O0 => ?_); refine .lenLe (n := 1) rfl (fun len1 => ?_); refine .seq ?_; refine .region ?_; refine .semM (OpSem.alloc 4 rfl zc30 rfl) rfl rfl (by decide) ?_; refine .sq ?_; refine .seq ?_; refine .seq ?_; refine .region ?_; refine .m ?_; refine .x (OpSem.lenL rfl rfl es22) ?_; refine .x (.b bgtr) ?_; refine .sq ?_; refine .cond rfl (fun c9 => ?_) (fun c9 => ?_)
 ·refine .seq ?_; refine .region ?_; refine .x (OpSem.build rfl rfl pl30 zc30 rfl rfl) ?_; refine .sb vs30 ?_; refine .sq ?_; refine .ret ?_; refine .pass_ret ?_; exact .ret rfl (.cellN rfl rfl vs30 <| .nil) rfl (Le.flt (steps_2 (by simp at c9; omega)))
 ·have s0 : ¬ 60 < l.length := by simp at c9; omega
  refine .skip ?_; refine .seq ?_; refine .seq ?_; refine .seq ?_; refine .region ?_; refine .m ?_; refine .x (OpSem.lenL rfl rfl es22) ?_; refine .m ?_; refine .sq ?_; refine .block ?_; refine .loop (X := Nat) (fun k => k ≤ l.length ∧ ∀ i : Nat, i < k → 0 ≤ nth l i ∧ nth l i < n) (fun k => [(0, I (n)), (4, .r 4 0), (11, .d (ints l)), (12, I (l.length)), (13, I (k))]) (fun k => [(4, .box [I (0), I (0)])]) (fun k => l.length - k) 0 ⟨by omega, by simp⟩ ?_ ?_
  ·exact .sl <| .sl <| .sl <| .sl <| .slot rfl (Le.of_eq (by simp)) <| .mem rfl <| .nil
  ·rintro k ⟨hkl, hinv⟩
   refine .seq ?_; refine .region ?_; refine .x (.b blss) ?_; refine .sq ?_; refine .seq ?_; refine .cond rfl (fun c14 => ?_) (fun c14 => ?_)
   ·have hk : k < l.length := by simpa using c14
    refine .skip ?_; refine .seq ?_; refine .seq ?_; refine .block ?_; refine .seq ?_; refine .region ?_; refine .x (OpSem.idxL rfl rfl rfl es22 (by omega) (by omega)) ?_; refine .x (OpSem.load1 rfl rfl vs3 rfl) ?_; refine .a ?_; refine .z ?_; refine .m ?_; refine .x (.b blss) ?_; refine .m ?_; refine .split (n := 19) rfl (fun c19 => ?_) (fun c19 => ?_)
    ·refine .hf c19 ?_; refine .hf c19 ?_; refine .hf c19 ?_; refine .x (OpSem.pickT rfl rfl c19 rfl) ?_; refine .sq ?_; refine .condT rfl rfl ?_; refine .seq ?_; refine .region ?_; refine .x (OpSem.build rfl rfl pl30 zc30 rfl rfl) ?_; refine .sb vs30 ?_; refine .sq ?_; refine .ret ?_; refine .block_ret ?_; refine .pass_ret ?_; refine .pass_ret ?_; refine .block_ret ?_; refine .pass_ret ?_; exact .ret rfl (.cellN rfl rfl vs30 <| .nil) rfl (Le.flt (steps_3 s0 (fun h => by have := h k hk; simp at c19; omega)))
    ·refine .ht c19 ?_; refine .m ?_; refine .ht c19 ?_; refine .m ?_; refine .ht c19 ?_; refine .x (.b bgeq) ?_; refine .x (OpSem.pickF rfl rfl c19 rfl) ?_; refine .sq ?_; refine .cond rfl (fun c23 => ?_) (fun c23 => ?_)
     ·refine .seq ?_; refine .region ?_; refine .x (OpSem.build rfl rfl pl30 zc30 rfl rfl) ?_; refine .sb vs30 ?_; refine .sq ?_; refine .ret ?_; refine .block_ret ?_; refine .pass_ret ?_; refine .pass_ret ?_; refine .block_ret ?_; refine .pass_ret ?_; exact .ret rfl (.cellN rfl rfl vs30 <| .nil) rfl (Le.flt (steps_3 s0 (fun h => by have := h k hk; simp at c23; omega)))
     ·have hb : 0 ≤ nth l k ∧ nth l k < n := by simp at c19 c23; omega
      refine .skip ?_; refine .block_normal ?_; refine .y ?_; refine .x .ad ?_; refine .m ?_; refine .nil ?_; refine .again (k + 1) ⟨by omega, all_succ hinv hb⟩ ?_ (by omega); exact .sl <| .sl <| .sl <| .sl <| .slot rfl (Le.of_eq (by simp)) <| .mem rfl <| .nil
   ·have hk : k = l.length := by simp at c14; omega
    refine .exit ?_; refine .pass_exit ?_; refine .pass_exit ?_; refine .block_same ?_; refine .z ?_; refine .x (OpSem.build rfl rfl pl30 zc30 rfl rfl) ?_; refine .sb vs30 ?_; refine .sq ?_; refine .ret ?_; exact .ret rfl (.cellN rfl rfl vs30 <| .nil) rfl (Le.flt (by subst hk; exact steps_0 s0 hinv))

theorem strips_PlanFault_does (t : Tsk) (l : List Int) : Does Try.prog false 47 [tskS t, .d (ints l)] (flt (planF2 t l)) := by
 refine Does.of_body Try.func47 rfl rfl (by simp) Try.call47 (fun w0 O0 => ?_); refine .lenG (n := 0) (i := 1) rfl rfl (fun len0_1 => ?_); refine .lenG (n := 0) (i := 2) rfl rfl (fun len0_2 => ?_); refine .lenG (n := 0) (i := 3) rfl rfl (fun len0_3 => ?_); refine .lenLe (n := 1) rfl (fun len1 => ?_); refine .seq ?_; refine .region ?_; refine .semM (OpSem.box 2 rfl rfl rfl rfl) rfl rfl (by decide) ?_; refine .semM (OpSem.alloc 4 rfl zc30 rfl) rfl rfl (by decide) ?_; refine .sq ?_; refine .seq ?_; refine .seq ?_; refine .region ?_; refine .x (OpSem.loadbN rfl rfl rfl vs25 (by first | decide | simp)) ?_; refine .x (OpSem.call0 (strips_Validate_does t) rfl rfl rfl rfl (Les.refl _)) ?_; refine .semM (OpSem.alloc 5 rfl zc30 rfl) rfl rfl (by decide) ?_; refine .sb vs30 ?_; refine .z ?_; refine .x (OpSem.loadbN rfl rfl rfl vs30 (by first | decide | simp)) ?_; refine .x (OpSem.build rfl rfl pl30 zc30 rfl rfl) ?_; refine .x (OpSem.neS2 rfl rfl rfl io30) ?_; refine .sq ?_; refine .cond rfl (fun c10 => ?_) (fun c10 => ?_)
 ·have hne : tskF t ≠ (0, 0) := fun h => by simp [h] at c10
  refine .seq ?_; refine .region ?_; refine .x (OpSem.loadbN rfl rfl rfl vs30 (by first | decide | simp)) ?_; refine .sb vs30 ?_; refine .sq ?_; refine .ret ?_; refine .pass_ret ?_; exact .ret rfl (.cellN rfl rfl vs30 <| .nil) rfl (Le.flt (planF2_1 hne))
 ·have h0 : tskF t = (0, 0) := pair0 (by simpa using c10)
  refine .skip ?_; refine .z ?_; refine .x (.f fo25_3) ?_; refine .x (.l vs23) ?_; refine .x (OpSem.lenL rfl rfl es23) ?_; refine .m ?_; refine .x (OpSem.call0 (strips_Steps_does t.ops.length l) rfl rfl rfl rfl (Les.refl _)) ?_; refine .sb vs30 ?_; refine .sq ?_; refine .ret ?_; exact .ret rfl (.cellN rfl rfl vs30 <| .nil) rfl (Le.flt (planF2_0 h0))

theorem R_Disjoint_does (a b : List Int) : Does Try.prog false 39 [.d (ints a), .d (ints b)] (Bo (decide (DisjP a b))) := by
 refine Does.of_body Try.func39 rfl rfl (by simp) Try.call39 (fun w0 O0 => ?_); refine .lenLe (n := 0) rfl (fun len0 => ?_); refine .lenLe (n := 1) rfl (fun len1 => ?_); refine .seq ?_; refine .region ?_; refine .a ?_; refine .sq ?_; refine .seq ?_; refine .seq ?_; refine .region ?_; refine .a ?_; refine .sq ?_; refine .block ?_; refine .loop (X := Nat) (fun k => k ≤ a.length ∧ ∀ i : Nat, i < k → nth a i ∉ b) (fun k => [(0, .d (ints a)), (1, .d (ints b)), (5, I (k))]) (fun k => []) (fun k => a.length - k) 0 ⟨by omega, by simp⟩ ?_ ?_
 ·exact .sl <| .sl <| .slot rfl (Le.of_eq (by simp)) <| .nil
 ·rintro k ⟨hkl, hinv⟩
  refine .seq ?_; refine .seq ?_; refine .region ?_; refine .m ?_; refine .m ?_; refine .x (OpSem.lenL rfl rfl es22) ?_; refine .x (.b blss) ?_; refine .sq ?_; refine .cond rfl (fun c9 => ?_) (fun c9 => ?_)
  ·have hk : k < a.length := by simpa using c9
   refine .skip ?_; refine .seq ?_; refine .seq ?_; refine .block ?_; refine .seq ?_; refine .region ?_; refine .m ?_; refine .m ?_; refine .m ?_; refine .x (OpSem.idxL rfl rfl rfl es22 (by omega) (by omega)) ?_; refine .x (OpSem.load1 rfl rfl vs3 rfl) ?_; refine .x (OpSem.call0 (R_Has_does b (nth a k)) rfl rfl rfl rfl (Les.refl _)) ?_; refine .sq ?_; refine .cond rfl (fun c17 => ?_) (fun c17 => ?_)
   ·have hb : nth a k ∈ b := of_decide_eq_true c17
    refine .seq ?_; refine .region ?_; refine .a ?_; refine .sq ?_; refine .ret ?_; refine .block_ret ?_; refine .pass_ret ?_; refine .pass_ret ?_; refine .block_ret ?_; refine .pass_ret ?_; exact .ret rfl (.tmp rfl <| .nil) rfl (Le.bo (decide_eq_false (fun h => h k hk hb)).symm)
   ·have hb : nth a k ∉ b := of_decide_eq_false c17
    refine .skip ?_; refine .block_normal ?_; refine .y ?_; refine .m ?_; refine .x .ad ?_; refine .a ?_; refine .nil ?_; refine .again (k + 1) ⟨by omega, all_succ hinv hb⟩ ?_ (by omega); exact .sl <| .sl <| .slot rfl (Le.of_eq (by simp)) <| .nil
  ·have hk : k = a.length := by simp at c9; omega
   refine .exit ?_; refine .pass_exit ?_; refine .pass_exit ?_; refine .block_same ?_; refine .z ?_; refine .a ?_; refine .sq ?_; refine .ret ?_; exact .ret rfl (.tmp rfl <| .nil) rfl (Le.bo (decide_eq_true (by subst hk; exact hinv)).symm)

theorem R_TaskFault_does (t : Tsk) : Does Try.prog false 13 [tskS t] (flt (tskF t)) := by
 refine Does.of_body Try.func13 rfl rfl (by simp) Try.call13 (fun w0 O0 => ?_); refine .lenG (n := 0) (i := 1) rfl rfl (fun len0_1 => ?_); refine .lenG (n := 0) (i := 2) rfl rfl (fun len0_2 => ?_); refine .lenG (n := 0) (i := 3) rfl rfl (fun len0_3 => ?_); refine .seq ?_; refine .region ?_; refine .semM (OpSem.box 1 rfl rfl rfl rfl) rfl rfl (by decide) ?_; refine .semM (OpSem.alloc 2 rfl zc30 rfl) rfl rfl (by decide) ?_; refine .sq ?_; refine .seq ?_; refine .seq ?_; refine .region ?_; refine .x (.f fo25_0) ?_; refine .x (.l vs3) ?_; refine .x (OpSem.call0 (R_In_does ..) rfl rfl rfl rfl (Les.refl _)) ?_; refine .x (OpSem.not rfl rfl) ?_; refine .sq ?_; refine .cond rfl (fun c8 => ?_) (fun c8 => ?_)
 ·refine .seq ?_; refine .region ?_; refine .x (OpSem.call0 (R_At_does ..) rfl rfl rfl rfl (Les.refl _)) ?_; refine .sb vs30 ?_; refine .sq ?_; refine .ret ?_; refine .pass_ret ?_; exact .ret rfl (.cellN rfl rfl vs30 <| .nil) rfl (Le.flt (tskF_1 (by simp at c8; omega)))
 ·have s1 : ¬ (t.facts < 0 ∨ 24 < t.facts) := by simp at c8; omega
  refine .skip ?_; refine .seq ?_; refine .seq ?_; refine .seq ?_; refine .region ?_; refine .x (.f fo25_1) ?_; refine .x (.l vs22) ?_; refine .x (.f fo25_0) ?_; refine .x (.l vs3) ?_; refine .x (OpSem.call0 (R_IsSet_does t.ini t.facts (by omega)) rfl rfl rfl rfl (Les.refl _)) ?_; refine .x (OpSem.not rfl rfl) ?_; refine .sq ?_; refine .cond rfl (fun c15 => ?_) (fun c15 => ?_)
  ·refine .seq ?_; refine .region ?_; refine .x (OpSem.call0 (R_At_does ..) rfl rfl rfl rfl (Les.refl _)) ?_; refine .sb vs30 ?_; refine .sq ?_; refine .ret ?_; refine .pass_ret ?_; exact .ret rfl (.cellN rfl rfl vs30 <| .nil) rfl (Le.flt (tskF_2 s1 (by simpa using c15)))
  ·have s2 : SetP t.facts t.ini := by simpa using c15
   refine .skip ?_; refine .seq ?_; refine .seq ?_; refine .seq ?_; refine .region ?_; refine .x (.f fo25_2) ?_; refine .x (.l vs22) ?_; refine .x (.f fo25_0) ?_; refine .x (.l vs3) ?_; refine .x (OpSem.call0 (R_IsSet_does t.goal t.facts (by omega)) rfl rfl rfl rfl (Les.refl _)) ?_; refine .x (OpSem.not rfl rfl) ?_; refine .sq ?_; refine .cond rfl (fun c22 => ?_) (fun c22 => ?_)
   ·refine .seq ?_; refine .region ?_; refine .x (OpSem.call0 (R_At_does ..) rfl rfl rfl rfl (Les.refl _)) ?_; refine .sb vs30 ?_; refine .sq ?_; refine .ret ?_; refine .pass_ret ?_; exact .ret rfl (.cellN rfl rfl vs30 <| .nil) rfl (Le.flt (tskF_3 s1 s2 (by simpa using c22)))
   ·have s3 : SetP t.facts t.goal := by simpa using c22
    refine .skip ?_; refine .seq ?_; refine .seq ?_; refine .seq ?_; refine .region ?_; refine .x (.f fo25_3) ?_; refine .x (.l vs23) ?_; refine .x (OpSem.lenL rfl rfl es23) ?_; refine .x (.b bgtr) ?_; refine .sq ?_; refine .cond rfl (fun c27 => ?_) (fun c27 => ?_)
    ·refine .seq ?_; refine .region ?_; refine .x (OpSem.call0 (R_At_does ..) rfl rfl rfl rfl (Les.refl _)) ?_; refine .sb vs30 ?_; refine .sq ?_; refine .ret ?_; refine .pass_ret ?_; exact .ret rfl (.cellN rfl rfl vs30 <| .nil) rfl (Le.flt (tskF_4 s1 s2 s3 (by simp at c27; omega)))
    ·have s4 : ¬ 40 < t.ops.length := by simp at c27; omega
     refine .skip ?_; refine .seq ?_; refine .seq ?_; refine .seq ?_; refine .region ?_; refine .a ?_; refine .sq ?_; refine .block ?_; refine .loop (X := Nat) (fun k => k ≤ t.ops.length ∧ ∀ i : Nat, i < k → opCode t.facts (nth t.ops i) = 0) (fun k => [(1, .r 1 0), (2, .r 2 0), (3, I (k))]) (fun k => [(1, .box [I (t.facts), .d (ints t.ini), .d (ints t.goal), .d (sopsD t.ops)]), (2, .box [I (0), I (0)])]) (fun k => t.ops.length - k) 0 ⟨by omega, by simp⟩ ?_ ?_
     ·exact .sl <| .sl <| .slot rfl (Le.of_eq (by simp)) <| .mem rfl <| .mem rfl <| .nil
     ·rintro k ⟨hkl, hinv⟩
      refine .seq ?_; refine .seq ?_; refine .region ?_; refine .m ?_; refine .x (.f fo25_3) ?_; refine .x (.l vs23) ?_; refine .x (OpSem.lenL rfl rfl es23) ?_; refine .x (.b blss) ?_; refine .sq ?_; refine .cond rfl (fun c33 => ?_) (fun c33 => ?_)
      ·have hk : k < t.ops.length := by simpa using c33
       refine .skip ?_; refine .seq ?_; refine .seq ?_; refine .block ?_; refine .seq ?_; refine .region ?_; refine .x (.f fo25_3) ?_; refine .x (.l vs23) ?_; refine .m ?_; refine .x (OpSem.idxL rfl rfl rfl es23 (by omega) (by omega)) ?_; refine .x (OpSem.loadN rfl rfl vs35 (by first | decide | simp) rfl) ?_; refine .semM (OpSem.alloc 4 rfl zc35 rfl) rfl rfl (by decide) ?_; refine .sb vs35 ?_; refine .sq ?_; refine .seq ?_; refine .seq ?_; refine .region ?_; refine .x (.f fo35_0) ?_; refine .x (.l vs22) ?_; refine .x (.f fo25_0) ?_; refine .x (.l vs3) ?_; refine .x (OpSem.call0 (R_IsSet_does (nth t.ops k).pre t.facts (by omega)) rfl rfl rfl rfl (Les.refl _)) ?_; refine .x (OpSem.not rfl rfl) ?_; refine .m ?_; refine .split (n := 47) rfl (fun c47 => ?_) (fun c47 => ?_)
       ·have hb0 : opCode t.facts (nth t.ops k) = 5 := opCode_5 (fun h => by have := h.1; rw [decide_eq_true this] at c47; simp at c47)
        refine .hf c47 ?_; refine .hf c47 ?_; refine .hf c47 ?_; refine .hf c47 ?_; refine .hf c47 ?_; refine .hf c47 ?_; refine .x (OpSem.pickT rfl rfl c47 rfl) ?_; refine .m ?_; refine .hf rfl ?_; refine .hf rfl ?_; refine .hf rfl ?_; refine .hf rfl ?_; refine .hf rfl ?_; refine .hf rfl ?_; refine .x (OpSem.pickT rfl rfl rfl rfl) ?_; refine .m ?_; refine .hf rfl ?_; refine .hf rfl ?_; refine .hf rfl ?_; refine .hf rfl ?_; refine .hf rfl ?_; refine .hf rfl ?_; refine .x (OpSem.pickT rfl rfl rfl rfl) ?_; refine .sq ?_; refine .condT rfl rfl ?_; refine .seq ?_; refine .region ?_; refine .m ?_; refine .x (OpSem.call0 (R_At_does ..) rfl rfl rfl rfl (Les.refl _)) ?_; refine .sb vs30 ?_; refine .sq ?_; refine .ret ?_; refine .pass_ret ?_; refine .block_ret ?_; refine .pass_ret ?_; refine .pass_ret ?_; refine .block_ret ?_; refine .pass_ret ?_; exact .ret rfl (.cellN rfl rfl vs30 <| .nil) rfl (Le.flt (by rw [tskF_5 s1 s2 s3 s4, ← sops_bad hk hinv (by rw [hb0]; decide), hb0]))
       ·have q1 : SetP t.facts (nth t.ops k).pre := by simpa using c47
        refine .ht c47 ?_; refine .x (.f fo35_1) ?_; refine .ht c47 ?_; refine .x (.l vs22) ?_; refine .ht c47 ?_; refine .x (.f fo25_0) ?_; refine .ht c47 ?_; refine .x (.l vs3) ?_; refine .ht c47 ?_; refine .x (OpSem.call0 (R_IsSet_does (nth t.ops k).add t.facts (by omega)) rfl rfl rfl rfl (Les.refl _)) ?_; refine .ht c47 ?_; refine .x (OpSem.not rfl rfl) ?_; refine .x (OpSem.pickF rfl rfl c47 rfl) ?_; refine .m ?_; refine .split (n := 55) rfl (fun c55 => ?_) (fun c55 => ?_)
        ·have hb0 : opCode t.facts (nth t.ops k) = 5 := opCode_5 (fun h => by have := h.2.1; rw [decide_eq_true this] at c55; simp at c55)
         refine .hf c55 ?_; refine .hf c55 ?_; refine .hf c55 ?_; refine .hf c55 ?_; refine .hf c55 ?_; refine .hf c55 ?_; refine .x (OpSem.pickT rfl rfl c55 rfl) ?_; refine .m ?_; refine .hf rfl ?_; refine .hf rfl ?_; refine .hf rfl ?_; refine .hf rfl ?_; refine .hf rfl ?_; refine .hf rfl ?_; refine .x (OpSem.pickT rfl rfl rfl rfl) ?_; refine .sq ?_; refine .condT rfl rfl ?_; refine .seq ?_; refine .region ?_; refine .m ?_; refine .x (OpSem.call0 (R_At_does ..) rfl rfl rfl rfl (Les.refl _)) ?_; refine .sb vs30 ?_; refine .sq ?_; refine .ret ?_; refine .pass_ret ?_; refine .block_ret ?_; refine .pass_ret ?_; refine .pass_ret ?_; refine .block_ret ?_; refine .pass_ret ?_; exact .ret rfl (.cellN rfl rfl vs30 <| .nil) rfl (Le.flt (by rw [tskF_5 s1 s2 s3 s4, ← sops_bad hk hinv (by rw [hb0]; decide), hb0]))
        ·have q2 : SetP t.facts (nth t.ops k).add := by simpa using c55
         refine .ht c55 ?_; refine .x (.f fo35_2) ?_; refine .ht c55 ?_; refine .x (.l vs22) ?_; refine .ht c55 ?_; refine .x (.f fo25_0) ?_; refine .ht c55 ?_; refine .x (.l vs3) ?_; refine .ht c55 ?_; refine .x (OpSem.call0 (R_IsSet_does (nth t.ops k).del t.facts (by omega)) rfl rfl rfl rfl (Les.refl _)) ?_; refine .ht c55 ?_; refine .x (OpSem.not rfl rfl) ?_; refine .x (OpSem.pickF rfl rfl c55 rfl) ?_; refine .m ?_; refine .split (n := 63) rfl (fun c63 => ?_) (fun c63 => ?_)
         ·have hb0 : opCode t.facts (nth t.ops k) = 5 := opCode_5 (fun h => by have := h.2.2.1; rw [decide_eq_true this] at c63; simp at c63)
          refine .hf c63 ?_; refine .hf c63 ?_; refine .hf c63 ?_; refine .hf c63 ?_; refine .hf c63 ?_; refine .hf c63 ?_; refine .x (OpSem.pickT rfl rfl c63 rfl) ?_; refine .sq ?_; refine .condT rfl rfl ?_; refine .seq ?_; refine .region ?_; refine .m ?_; refine .x (OpSem.call0 (R_At_does ..) rfl rfl rfl rfl (Les.refl _)) ?_; refine .sb vs30 ?_; refine .sq ?_; refine .ret ?_; refine .pass_ret ?_; refine .block_ret ?_; refine .pass_ret ?_; refine .pass_ret ?_; refine .block_ret ?_; refine .pass_ret ?_; exact .ret rfl (.cellN rfl rfl vs30 <| .nil) rfl (Le.flt (by rw [tskF_5 s1 s2 s3 s4, ← sops_bad hk hinv (by rw [hb0]; decide), hb0]))
         ·have q3 : SetP t.facts (nth t.ops k).del := by simpa using c63
          refine .ht c63 ?_; refine .x (.f fo35_1) ?_; refine .ht c63 ?_; refine .x (.l vs22) ?_; refine .ht c63 ?_; refine .x (.f fo35_2) ?_; refine .ht c63 ?_; refine .x (.l vs22) ?_; refine .ht c63 ?_; refine .x (OpSem.call0 (R_Disjoint_does (nth t.ops k).add (nth t.ops k).del) rfl rfl rfl rfl (Les.refl _)) ?_; refine .ht c63 ?_; refine .x (OpSem.not rfl rfl) ?_; refine .x (OpSem.pickF rfl rfl c63 rfl) ?_; refine .sq ?_; refine .cond rfl (fun c70 => ?_) (fun c70 => ?_)
          ·have hb0 : opCode t.facts (nth t.ops k) = 5 := opCode_5 (fun h => by have := h.2.2.2; rw [decide_eq_true this] at c70; simp at c70)
           refine .seq ?_; refine .region ?_; refine .m ?_; refine .x (OpSem.call0 (R_At_does ..) rfl rfl rfl rfl (Les.refl _)) ?_; refine .sb vs30 ?_; refine .sq ?_; refine .ret ?_; refine .pass_ret ?_; refine .block_ret ?_; refine .pass_ret ?_; refine .pass_ret ?_; refine .block_ret ?_; refine .pass_ret ?_; exact .ret rfl (.cellN rfl rfl vs30 <| .nil) rfl (Le.flt (by rw [tskF_5 s1 s2 s3 s4, ← sops_bad hk hinv (by rw [hb0]; decide), hb0]))
          ·have q4 : DisjP (nth t.ops k).add (nth t.ops k).del := by simpa using c70
           have qA := And.intro q1 (And.intro q2 (And.intro q3 q4))
           refine .skip ?_; refine .z ?_; refine .x (.f fo35_3) ?_; refine .x (.l vs3) ?_; refine .x (OpSem.call0 (R_In_does ..) rfl rfl rfl rfl (Les.refl _)) ?_; refine .x (OpSem.not rfl rfl) ?_; refine .sq ?_; refine .cond rfl (fun c76 => ?_) (fun c76 => ?_)
           ·have hb0 : opCode t.facts (nth t.ops k) = 3 := opCode_3 qA (by simp at c76; omega)
            refine .seq ?_; refine .region ?_; refine .m ?_; refine .x (OpSem.call0 (R_At_does ..) rfl rfl rfl rfl (Les.refl _)) ?_; refine .sb vs30 ?_; refine .sq ?_; refine .ret ?_; refine .block_ret ?_; refine .pass_ret ?_; refine .pass_ret ?_; refine .block_ret ?_; refine .pass_ret ?_; exact .ret rfl (.cellN rfl rfl vs30 <| .nil) rfl (Le.flt (by rw [tskF_5 s1 s2 s3 s4, ← sops_bad hk hinv (by rw [hb0]; decide), hb0]))
           ·have hb : opCode t.facts (nth t.ops k) = 0 := opCode_0 qA (by simp at c76; omega)
            refine .skip ?_; refine .block_normal ?_; refine .y ?_; refine .m ?_; refine .x .ad ?_; refine .a ?_; refine .nil ?_; refine .again (k + 1) ⟨by omega, all_succ hinv hb⟩ ?_ (by omega); exact .sl <| .sl <| .slot rfl (Le.of_eq (by simp)) <| .mem rfl <| .mem rfl <| .nil
      ·have hk : k = t.ops.length := by simp at c33; omega
       refine .exit ?_; refine .pass_exit ?_; refine .pass_exit ?_; refine .block_same ?_; refine .z ?_; refine .x (OpSem.build rfl rfl pl30 zc30 rfl rfl) ?_; refine .sb vs30 ?_; refine .sq ?_; refine .ret ?_; exact .ret rfl (.cellN rfl rfl vs30 <| .nil) rfl (Le.flt (by rw [tskF_5 s1 s2 s3 s4]; subst hk; exact (sops_all hinv).symm))

theorem counting_Counts_does (t : Tsk) (l : List Int) : Does Try.prog false 20 [tskS t, .d (ints l)] (.t [.d (ints (cntR t l)), flt (planF2 t l)]) := by
 refine Does.of_body Try.func20 rfl rfl (by simp) Try.call20 (fun w0 O0 => ?_); refine .lenG (n := 0) (i := 1) rfl rfl (fun len0_1 => ?_); refine .lenG (n := 0) (i := 2) rfl rfl (fun len0_2 => ?_); refine .lenG (n := 0) (i := 3) rfl rfl (fun len0_3 => ?_); refine .lenLe (n := 1) rfl (fun len1 => ?_); refine .seq ?_; refine .region ?_; refine .semM (OpSem.box 2 rfl rfl rfl rfl) rfl rfl (by decide) ?_; refine .a ?_; refine .semM (OpSem.alloc 5 rfl zc30 rfl) rfl rfl (by decide) ?_; refine .sq ?_; refine .seq ?_; refine .seq ?_; refine .region ?_; refine .x (OpSem.loadbN rfl rfl rfl vs25 (by first | decide | simp)) ?_; refine .m ?_; refine .x (OpSem.call0 (strips_PlanFault_does t l) rfl rfl rfl rfl (Les.refl _)) ?_; refine .semM (OpSem.alloc 6 rfl zc30 rfl) rfl rfl (by decide) ?_; refine .sb vs30 ?_; refine .z ?_; refine .x (OpSem.loadbN rfl rfl rfl vs30 (by first | decide | simp)) ?_; refine .x (OpSem.build rfl rfl pl30 zc30 rfl rfl) ?_; refine .x (OpSem.neS2 rfl rfl rfl io30) ?_; refine .sq ?_; refine .cond rfl (fun c15 => ?_) (fun c15 => ?_)
 ·have hne : planF2 t l ≠ (0, 0) := fun h => by simp [h] at c15
  refine .seq ?_; refine PC.start [] ?_; refine .x (OpSem.loadbN rfl rfl rfl vs30 (by first | decide | simp)) ?_; refine .x (OpSem.move (.inr rfl) rfl) ?_; refine .d0 mixed ?_; refine .sb vs30 ?_; refine .sq ?_; refine .ret ?_; refine .pass_ret ?_; exact .ret rfl (.tmp rfl <| .cellN rfl rfl vs30 <| .nil) rfl (Le.t (.cons (by rw [cntR_1 hne]; exact Le.nil 1) <| .cons (.refl _) <| .nil))
 ·have h0 : planF2 t l = (0, 0) := pair0 (by simpa using c15)
  obtain ⟨q0, q1, q2⟩ := planF2_ok h0
  have hol := tskF_ops q0
  refine .skip ?_; refine .z ?_; refine .x (.f fo25_3) ?_; refine .x (.l vs23) ?_; refine .x (OpSem.lenL rfl rfl es23) ?_; refine .semM (OpSem.makeSlice 20 rfl rfl rfl es22 ze22 rfl rfl (by decide) bye22 (by omega) (by omega) (by omega)) rfl rfl (by decide) ?_; refine .a ?_; refine .sq ?_; refine .seq ?_; refine .seq ?_; refine .region ?_; refine .m ?_; refine .x (OpSem.lenL rfl rfl es22) ?_; refine .m ?_; refine .sq ?_; refine .block ?_; refine .loop (X := Nat) (fun k => k ≤ l.length) (fun k => [(5, .r 5 0), (7, .o 20), (21, .d (ints l)), (22, I (l.length)), (23, I (k))]) (fun k => [(20, .own 1 3 ((cntTo t.ops.length l k).map fun n => [D.v (.int .i64 n)])), (5, .box [I (0), I (0)])]) (fun k => l.length - k) 0 (by omega) ?_ ?_
  ·exact .sl <| .sl <| .sl <| .sl <| .slot rfl (Le.of_eq (by simp)) <| .memEq rfl (by rw [cntTo_0, el22]; first | (simp; done) | (simp; rfl)) <| .mem rfl <| .nil
  ·rintro k hkl
   refine .seq ?_; refine .region ?_; refine .x (.b blss) ?_; refine .sq ?_; refine .seq ?_; refine .cond rfl (fun c24 => ?_) (fun c24 => ?_)
   ·have hk : k < l.length := by simpa using c24
    have hp := q2 k hk
    have hcv := cntTo_le (n := t.ops.length) (l := l) (k := k) hp.1 hp.2
    refine .skip ?_; refine .seq ?_; refine .seq ?_; refine .block ?_; refine .seq ?_; refine .region ?_; refine .x (OpSem.idxL rfl rfl rfl es22 (by omega) (by omega)) ?_; refine .x (OpSem.load1 rfl rfl vs3 rfl) ?_; refine .a ?_; refine .y ?_; refine .m ?_; refine .m ?_; refine .x (OpSem.idxo rfl rfl rfl rfl es22 (by omega) (by simp [cntTo_len]; omega)) ?_; refine .x (OpSem.loadq rfl rfl rfl vs3 (rows_get (by omega) (by rw [cntTo_len]; omega)) rfl) ?_; refine .x .ad ?_; refine .x (OpSem.idxo rfl rfl rfl rfl es22 (by omega) (by simp [cntTo_len]; omega)) ?_; refine .storeq rfl rfl rfl rfl rfl rfl rfl vs3 (rows_get (by omega) (by rw [cntTo_len]; omega)) (by simp) ?_; refine .nil ?_; refine .block_normal ?_; refine .y ?_; refine .x .ad ?_; refine .m ?_; refine .nil ?_; refine .again (k + 1) (by omega) ?_ (by omega); exact .sl <| .sl <| .sl <| .sl <| .slot rfl (Le.of_eq (by simp)) <| .memEq rfl (by rw [← cntTo_s hk hp.1 hp.2]; exact congrArg (Mo.own 1 3) (rows_set (f := fun n => [D.v (.int .i64 n)]))) <| .mem rfl <| .nil
   ·have hk : k = l.length := by simp at c24; omega
    subst hk
    refine .exit ?_; refine .pass_exit ?_; refine .pass_exit ?_; refine .block_same ?_; refine .seq ?_; refine .seq ?_; refine .freeze 20 rfl ?_; refine .region ?_; refine .m ?_; refine .x (OpSem.build rfl rfl pl30 zc30 rfl rfl) ?_; refine .a ?_; refine .sb vs30 ?_; refine .sq ?_; refine .ret ?_; exact .ret rfl (.tmp rfl <| .cellN rfl rfl vs30 <| .nil) rfl (Le.t (.cons (Le.of_eq (by rw [cntR_0 h0])) <| .cons (Le.flt h0.symm) <| .nil))

end Go.Proofs.Ytlidcpmdgceboaa
end

section
/- The product of a quotient; bisimulation of the reference. -/

namespace Go.Eng
open Go
section
variable {a b : Abs} {c : List Int}
end
end Go.Eng
end

section
/- The reference's bisimulations: pairs of states that differ are marked until nothing changes. -/

namespace Go.Eng
open Go
/-! ### Alike -/
def mtF (E : Int → Int → Bool) (a : Abs) (y : Int) (i : Nat) : Nat → Bool
  | 0 => false
  | k + 1 => mtF E a y i k || (decide ((nth a.arcs k).fr = y) && decide ((nth a.arcs k).lab = (nth a.arcs i).lab) && E (nth a.arcs i).to (nth a.arcs k).to)
def AlkP (E : Int → Int → Bool) (a : Abs) (x y : Int) : Prop := ∀ i : Nat, i < a.arcs.length → (nth a.arcs i).fr = x → mtF E a y i a.arcs.length = true
instance {E : Int → Int → Bool} {a : Abs} {x y : Int} : Decidable (AlkP E a x y) := by unfold AlkP; exact inferInstance
def peq (p : List Int) (u v : Int) : Bool := decide (nth p v = nth p u)
def BPr (a : Abs) (p : List Int) (x y : Nat) : Prop := nth p x = nth p y → (decide ((x : Int) ∈ a.goals) = decide ((y : Int) ∈ a.goals)) ∧ AlkP (peq p) a x y
instance {a : Abs} {p : List Int} {x y : Nat} : Decidable (BPr a p x y) := by unfold BPr; exact inferInstance
def IsB (a : Abs) (p : List Int) : Prop := ∀ x : Nat, x < nS a → ∀ y : Nat, y < nS a → BPr a p x y
instance {a : Abs} {p : List Int} : Decidable (IsB a p) := by unfold IsB; exact inferInstance
/-! ### The marks -/
def mark (a : Abs) (d : List Bool) (x y : Int) : List Bool := setI (setI d (x * a.states + y) true) (y * a.states + x) true
section
variable {a : Abs} (ha : AbsOk a)
include ha
def mMu (s : List Bool × Bool) : Nat := 2 * openN s.1 + (if s.2 = true then 1 else 0)
omit ha in
theorem set2_get {l : List Bool} {i j : Int} {c v : Bool} (h0 : 0 ≤ j) (h1 : j < l.length) : ((l.map fun b => [D.v (.bool b)]).set i.toNat ([D.v (.bool c)].set 0 (D.v (.bool v))))[j.toNat]? = some [D.v (.bool (nth (setI l i v) j))] := by
  have : ((l.map fun b => [D.v (.bool b)]).set i.toNat ([D.v (.bool c)].set 0 (D.v (.bool v)))) = (setI l i v).map fun b => [D.v (.bool b)] := by simp [setI, List.map_set]
  rw [this]
  exact rows_get h0 (by rw [setI_len]; exact h1)
omit ha in
theorem mark_rows {d : List Bool} {x y : Int} {c c' : Bool} : (((d.map fun b => [D.v (.bool b)]).set (x * a.states + y).toNat ([D.v (.bool c)].set 0 (D.v (.bool true)))).set (y * a.states + x).toNat ([D.v (.bool c')].set 0 (D.v (.bool true)))) = (mark a d x y).map fun b => [D.v (.bool b)] := by
  unfold mark setI; simp [List.map_set]
/-! ### The first marks -/
def gdf (a : Abs) (u v : Int) : Bool := !(decide (u ∈ a.goals) == decide (v ∈ a.goals))
def dfTo (a : Abs) (m : Nat) : List Bool := (List.range (nS a * nS a)).map fun (i : Nat) => decide (i < m) && gdf a ((i : Int) / a.states) ((i : Int) % a.states)
omit ha in
theorem dfTo_len {m : Nat} : (dfTo a m).length = nS a * nS a := by simp [dfTo]
omit ha in
theorem dfTo_0 : dfTo a 0 = List.replicate (nS a * nS a) false := by
  apply List.ext_getElem (by simp [dfTo])
  intro i h1 h2; simp [dfTo]
end
/-! ### The numbers at the end -/
end Go.Eng
end

section
/- Relaxed reachability: the closure under some operators. -/


namespace Go.Eng
open Go
inductive Rch (t : Tsk) (s : List Int) (use : Nat → Bool) : Int → Prop
  | base {p : Int} : p ∈ s → Rch t s use p
  | op {i : Nat} {p : Int} : i < t.ops.length → use i = true → (∀ q, q ∈ (nth t.ops i).pre → Rch t s use q) → p ∈ (nth t.ops i).add → Rch t s use p
open Classical in
noncomputable def cloL (t : Tsk) (s : List Int) (use : Nat → Bool) : List Bool := (List.range t.facts.toNat).map fun (p : Nat) => decide (Rch t s use p)
theorem cloL_len {t : Tsk} {s : List Int} {use : Nat → Bool} : (cloL t s use).length = t.facts.toNat := by simp [cloL]
open Classical in
theorem cloL_at {t : Tsk} {s : List Int} {use : Nat → Bool} {p : Int} (h0 : 0 ≤ p) (h1 : p < t.facts) : nth (cloL t s use) p = true ↔ Rch t s use p := by
  obtain ⟨n, rfl⟩ := Int.eq_ofNat_of_zero_le h0
  rw [nth_eq (by rw [cloL_len]; omega)]
  simp [cloL]
/-- All facts of a list are marked. -/
def AllP (d : List Bool) (l : List Int) : Prop := ∀ k : Nat, k < l.length → nth d (nth l k) = true
instance {d : List Bool} {l : List Int} : Decidable (AllP d l) := by unfold AllP; exact inferInstance
def addTo2 (l : List Int) (s : List Bool × Bool) : Nat → List Bool × Bool
  | 0 => s
  | j + 1 => (setI (addTo2 l s j).1 (nth l j) true, (addTo2 l s j).2 || !(nth (addTo2 l s j).1 (nth l j)))
def clS (t : Tsk) (use : Nat → Bool) (s : List Bool × Bool) (i : Nat) : List Bool × Bool :=
  if use i = true ∧ AllP s.1 (nth t.ops i).pre then addTo2 (nth t.ops i).add s (nth t.ops i).add.length else s
def clTo (t : Tsk) (use : Nat → Bool) (s : List Bool × Bool) : Nat → List Bool × Bool
  | 0 => s
  | i + 1 => clS t use (clTo t use s i) i
/-- The marks of a list. -/
def mkTo (n : Nat) (l : List Int) : Nat → List Bool
  | 0 => List.replicate n false
  | k + 1 => setI (mkTo n l k) (nth l k) true
theorem mkTo_len {n : Nat} {l : List Int} : ∀ {k : Nat}, (mkTo n l k).length = n
  | 0 => by simp [mkTo]
  | k + 1 => by simp only [mkTo]; rw [setI_len, mkTo_len]
theorem setI_true {d : List Bool} {x y : Int} (h0 : 0 ≤ x) (h1 : x < d.length) (hy : 0 ≤ y) : nth (setI d y true) x = true ↔ x = y ∨ nth d x = true := by
  rw [nth_setI h0 h1 hy]
  by_cases h : x = y <;> simp [h]
theorem mkTo_at {n : Nat} {l : List Int} {x : Int} (hl : ∀ k : Nat, k < l.length → 0 ≤ nth l k) (h0 : 0 ≤ x) (h1 : x < n) : ∀ {k : Nat}, k ≤ l.length → (nth (mkTo n l k) x = true ↔ ∃ i : Nat, i < k ∧ nth l i = x)
  | 0, _ => by
    obtain ⟨m, rfl⟩ := Int.eq_ofNat_of_zero_le h0
    rw [nth_eq (by rw [mkTo_len]; omega)]
    simp [mkTo]
  | k + 1, hk => by
    have ih := mkTo_at hl h0 h1 (k := k) (by omega)
    simp only [mkTo]
    rw [setI_true h0 (by rw [mkTo_len]; exact h1) (hl k (by omega)), ih]
    constructor
    · rintro (rfl | ⟨i, hi, h⟩)
      · exact ⟨k, by omega, rfl⟩
      · exact ⟨i, by omega, h⟩
    · rintro ⟨i, hi, h⟩
      by_cases e : i = k
      · subst e; exact .inl h.symm
      · exact .inr ⟨i, by omega, h⟩
/-- What holds of the marks. -/
structure KInv (t : Tsk) (s : List Int) (use : Nat → Bool) (d : List Bool) : Prop where
  len : d.length = t.facts.toNat
  base : ∀ p, p ∈ s → nth d p = true
  snd : ∀ p : Int, 0 ≤ p → p < t.facts → nth d p = true → Rch t s use p
def TskOk (t : Tsk) : Prop := (0 ≤ t.facts ∧ t.facts ≤ 24) ∧ ∀ i : Nat, i < t.ops.length → (SetP t.facts (nth t.ops i).pre ∧ SetP t.facts (nth t.ops i).add ∧ SetP t.facts (nth t.ops i).del)
section
variable {t : Tsk} {s : List Int} {use : Nat → Bool}
theorem addTo2_inv {l : List Int} {d : List Bool × Bool} (hl : ∀ k : Nat, k < l.length → 0 ≤ nth l k ∧ nth l k < t.facts) (hr : ∀ p, p ∈ l → Rch t s use p) (h : KInv t s use d.1) (hs : ∀ p, p ∈ s → 0 ≤ p ∧ p < t.facts) : ∀ {j : Nat}, j ≤ l.length → KInv t s use (addTo2 l d j).1 ∧ openN (addTo2 l d j).1 ≤ openN d.1 ∧ ((addTo2 l d j).2 = true → d.2 = true ∨ openN (addTo2 l d j).1 < openN d.1)
  | 0, _ => ⟨h, Nat.le_refl _, .inl⟩
  | j + 1, hj => by
    obtain ⟨i1, i2, i3⟩ := addTo2_inv hl hr h hs (j := j) (by omega)
    have hb := hl j (by omega)
    have hlen := i1.len
    have hle : openN (setI (addTo2 l d j).1 (nth l j) true) ≤ openN (addTo2 l d j).1 := by
      have : ∀ {s : List Bool} {i : Nat}, openN (s.set i true) ≤ openN s := by
        intro s
        induction s with
        | nil => intro i; simp
        | cons b s ih =>
          intro i
          cases i with
          | zero => simp only [openN, List.set_cons_zero, List.filter_cons]; cases b <;> simp
          | succ i =>
            have := ih (i := i)
            simp only [openN, List.set_cons_succ, List.filter_cons] at this ⊢
            cases b <;> simp <;> exact this
      exact this
    refine ⟨⟨by show (setI _ _ _).length = _; rw [setI_len]; exact hlen, fun p hp => ?_, fun p h0 h1 hp => ?_⟩, Nat.le_trans hle i2, fun hc => ?_⟩
    · have := hs p hp
      exact (setI_true this.1 (by omega) hb.1).2 (.inr (i1.base p hp))
    · rcases (setI_true h0 (by omega) hb.1).1 hp with rfl | hp
      · exact hr _ (nth_mem (by omega) (by omega))
      · exact i1.snd p h0 h1 hp
    · have hc : ((addTo2 l d j).2 || !(nth (addTo2 l d j).1 (nth l j))) = true := hc
      rw [Bool.or_eq_true] at hc
      rcases hc with hc | hc
      · rcases i3 hc with q | q
        · exact .inl q
        · exact .inr (Nat.lt_of_le_of_lt hle q)
      · right
        obtain ⟨m, hm⟩ := Int.eq_ofNat_of_zero_le hb.1
        have hml : m < (addTo2 l d j).1.length := by omega
        have hf : (addTo2 l d j).1[m] = false := by
          have : nth (addTo2 l d j).1 (nth l j) = false := by simpa using hc
          rw [hm, nth_eq hml] at this; exact this
        have := openN_set hml hf
        refine Nat.lt_of_lt_of_le ?_ i2
        show openN (setI _ (nth l j) true) < _
        rw [hm]
        exact this
theorem setI_same {d : List Bool} {x : Int} (h0 : 0 ≤ x) (h1 : x < d.length) (h : nth d x = true) : setI d x true = d := by
  obtain ⟨m, rfl⟩ := Int.eq_ofNat_of_zero_le h0
  rw [nth_eq (by omega)] at h
  unfold setI
  apply List.ext_getElem (by simp)
  intro i h2 h3
  rw [List.getElem_set]
  simp only [Int.toNat_natCast]
  by_cases e : m = i
  · subst e; rw [if_pos rfl]; exact h.symm
  · rw [if_neg e]
theorem addTo2_f {l : List Int} {d : List Bool × Bool} (hl : ∀ k : Nat, k < l.length → 0 ≤ nth l k ∧ nth l k < t.facts) (hd : d.1.length = t.facts.toNat) : ∀ {j : Nat}, j ≤ l.length → (addTo2 l d j).2 = false → d.2 = false ∧ addTo2 l d j = d ∧ ∀ i : Nat, i < j → nth d.1 (nth l i) = true
  | 0, _, h => ⟨h, rfl, fun i hi => by omega⟩
  | j + 1, hj, h => by
    have h : ((addTo2 l d j).2 || !(nth (addTo2 l d j).1 (nth l j))) = false := h
    rw [Bool.or_eq_false_iff] at h
    obtain ⟨i1, i2, i3⟩ := addTo2_f hl hd (j := j) (by omega) h.1
    have hn : nth d.1 (nth l j) = true := by have := h.2; rw [i2] at this; simpa using this
    have hb := hl j (by omega)
    refine ⟨i1, ?_, fun i hi => ?_⟩
    · show (setI (addTo2 l d j).1 (nth l j) true, (addTo2 l d j).2 || !(nth (addTo2 l d j).1 (nth l j))) = d
      rw [i2, setI_same hb.1 (by omega) hn, hn, i1]
      simp [← i1]
    · by_cases e : i = j
      · subst e; exact hn
      · exact i3 i (by omega)
theorem pre_rch (ht : TskOk t) {d : List Bool} (h : KInv t s use d) {i : Nat} (hi : i < t.ops.length) (hu : use i = true) (ha : AllP d (nth t.ops i).pre) : ∀ p, p ∈ (nth t.ops i).add → Rch t s use p := fun p hp => by
  refine .op hi hu (fun q hq => ?_) hp
  have hin := setP_mem (ht.2 i hi).1 hq
  obtain ⟨k, hk, rfl⟩ := List.getElem_of_mem hq
  have := ha k hk
  rw [nth_eq hk] at this
  exact h.snd _ hin.1 hin.2 this
theorem set_rng {n : Int} {l : List Int} (h : SetP n l) : ∀ k : Nat, k < l.length → 0 ≤ nth l k ∧ nth l k < n := fun k hk => ⟨(h k hk).1, (h k hk).2.1⟩
theorem clTo_inv (ht : TskOk t) (hs : ∀ p, p ∈ s → 0 ≤ p ∧ p < t.facts) {d : List Bool × Bool} (h : KInv t s use d.1) : ∀ {i : Nat}, i ≤ t.ops.length → KInv t s use (clTo t use d i).1 ∧ openN (clTo t use d i).1 ≤ openN d.1 ∧ ((clTo t use d i).2 = true → d.2 = true ∨ openN (clTo t use d i).1 < openN d.1)
  | 0, _ => ⟨h, Nat.le_refl _, .inl⟩
  | i + 1, hi => by
    obtain ⟨i1, i2, i3⟩ := clTo_inv ht hs h (i := i) (by omega)
    show KInv t s use (clS t use (clTo t use d i) i).1 ∧ openN (clS t use (clTo t use d i) i).1 ≤ _ ∧ ((clS t use (clTo t use d i) i).2 = true → _ ∨ openN (clS t use (clTo t use d i) i).1 < _)
    unfold clS
    by_cases c : use i = true ∧ AllP (clTo t use d i).1 (nth t.ops i).pre
    · rw [if_pos c]
      obtain ⟨j1, j2, j3⟩ := addTo2_inv (set_rng (ht.2 i (by omega)).2.1) (pre_rch ht i1 (by omega) c.1 c.2) i1 hs (Nat.le_refl _)
      refine ⟨j1, Nat.le_trans j2 i2, fun hh => ?_⟩
      rcases j3 hh with q | q
      · rcases i3 q with q | q
        · exact .inl q
        · exact .inr (Nat.lt_of_le_of_lt j2 q)
      · exact .inr (Nat.lt_of_lt_of_le q i2)
    · rw [if_neg c]; exact ⟨i1, i2, i3⟩
theorem clTo_f (ht : TskOk t) {d : List Bool × Bool} (hd : d.1.length = t.facts.toNat) : ∀ {i : Nat}, i ≤ t.ops.length → (clTo t use d i).2 = false → d.2 = false ∧ clTo t use d i = d ∧ ∀ j : Nat, j < i → use j = true → AllP d.1 (nth t.ops j).pre → AllP d.1 (nth t.ops j).add
  | 0, _, h => ⟨h, rfl, fun j hj => by omega⟩
  | i + 1, hi, h => by
    have h : (clS t use (clTo t use d i) i).2 = false := h
    have hs : clTo t use d (i + 1) = clS t use (clTo t use d i) i := rfl
    unfold clS at h hs
    by_cases c : use i = true ∧ AllP (clTo t use d i).1 (nth t.ops i).pre
    · rw [if_pos c] at h hs
      have hlen : (clTo t use d i).1.length = t.facts.toNat ∨ True := .inr trivial
      by_cases hf : (clTo t use d i).2 = false
      · obtain ⟨i1, i2, i3⟩ := clTo_f ht hd (i := i) (by omega) hf
        obtain ⟨j1, j2, j3⟩ := addTo2_f (d := clTo t use d i) (set_rng (ht.2 i (by omega)).2.1) (by rw [i2]; exact hd) (Nat.le_refl _) h
        refine ⟨i1, by rw [hs, j2, i2], fun j hj hu hp => ?_⟩
        by_cases e : j = i
        · subst e; rw [i2] at j3; exact j3
        · exact i3 j (by omega) hu hp
      · exfalso
        have key : ∀ (l : List Int) (d : List Bool × Bool) (j : Nat), d.2 = true → (addTo2 l d j).2 = true := by
          intro l d j hd
          induction j with
          | zero => exact hd
          | succ j ih => simp only [addTo2]; rw [ih]; rfl
        rw [key _ _ _ (by simpa using hf)] at h; cases h
    · rw [if_neg c] at h hs
      obtain ⟨i1, i2, i3⟩ := clTo_f ht hd (i := i) (by omega) h
      refine ⟨i1, hs.trans i2, fun j hj hu hp => ?_⟩
      by_cases e : j = i
      · subst e; rw [i2] at c; exact absurd ⟨hu, hp⟩ c
      · exact i3 j (by omega) hu hp
def LInv (t : Tsk) (s : List Int) (use : Nat → Bool) (x : List Bool × Bool) : Prop := KInv t s use x.1 ∧ (x.2 = false → ∀ j : Nat, j < t.ops.length → use j = true → AllP x.1 (nth t.ops j).pre → AllP x.1 (nth t.ops j).add)
theorem lInv_s (ht : TskOk t) (hs : ∀ p, p ∈ s → 0 ≤ p ∧ p < t.facts) {d : List Bool} (h : KInv t s use d) : LInv t s use (clTo t use (d, false) t.ops.length) ∧ mMu (clTo t use (d, false) t.ops.length) < mMu (d, true) := by
  obtain ⟨i1, i2, i3⟩ := clTo_inv ht hs (d := (d, false)) h (Nat.le_refl _)
  refine ⟨⟨i1, fun hf => ?_⟩, ?_⟩
  · obtain ⟨j1, j2, j3⟩ := clTo_f ht (d := (d, false)) h.len (Nat.le_refl _) hf
    rw [j2]; exact j3
  · have i2' : openN (clTo t use (d, false) t.ops.length).1 ≤ openN d := i2
    unfold mMu
    cases hb : (clTo t use (d, false) t.ops.length).2 with
    | false => simp; omega
    | true =>
      rcases i3 hb with q | q
      · cases q
      · have q' : openN (clTo t use (d, false) t.ops.length).1 < openN d := q
        simp; omega
theorem lInv_0 (hs : ∀ p, p ∈ s → 0 ≤ p ∧ p < t.facts) (h0 : 0 ≤ t.facts) : LInv t s use (mkTo t.facts.toNat s s.length, true) := by
  have hl : ∀ k : Nat, k < s.length → 0 ≤ nth s k := fun k hk => (hs _ (nth_mem (by omega) (by omega))).1
  refine ⟨⟨mkTo_len, fun p hp => ?_, fun p h1 h2 hp => ?_⟩, fun h => nomatch h⟩
  · have := hs p hp
    obtain ⟨i, hi, he⟩ := List.getElem_of_mem hp
    exact (mkTo_at hl this.1 (by omega) (Nat.le_refl _)).2 ⟨i, hi, by rw [nth_eq hi, he]⟩
  · obtain ⟨i, hi, he⟩ := (mkTo_at hl h1 (by omega) (Nat.le_refl _)).1 hp
    rw [← he]
    exact .base (nth_mem (by omega) (by omega))
theorem lInv_end (ht : TskOk t) (hs : ∀ p, p ∈ s → 0 ≤ p ∧ p < t.facts) {x : List Bool × Bool} (h : LInv t s use x) (hf : x.2 = false) : x.1 = cloL t s use := by
  obtain ⟨h1, h2⟩ := h
  have h2 := h2 hf
  have key : ∀ p, Rch t s use p → (0 ≤ p ∧ p < t.facts) ∧ nth x.1 p = true := fun p hp => by
    induction hp with
    | base hp => exact ⟨hs _ hp, h1.base _ hp⟩
    | @op i p hi hu hq hp ih =>
      have hin := setP_mem (ht.2 i hi).2.1 hp
      refine ⟨hin, ?_⟩
      have ha := h2 i hi hu (fun k hk => (ih _ (nth_mem (by omega) (by omega))).2)
      obtain ⟨k, hk, rfl⟩ := List.getElem_of_mem hp
      have := ha k hk
      rwa [nth_eq hk] at this
  refine ext_get (by rw [h1.len, cloL_len]) fun i hi => ?_
  have hil : i < t.facts.toNat := by rw [← h1.len]; exact hi
  have hc := cloL_at (t := t) (s := s) (use := use) (p := (i : Int)) (by omega) (by omega)
  cases hd : nth x.1 i with
  | true => exact (hc.2 (h1.snd i (by omega) (by omega) hd)).symm
  | false =>
    cases hd2 : nth (cloL t s use) i with
    | false => rfl
    | true =>
      have := (key i (hc.1 hd2)).2
      rw [hd] at this; cases this
end
end Go.Eng
end

section
/- Walks, written by gen.py out of hints. -/



namespace Go.Proofs.Ytlidcpmdgceboaa
open Go.Eng
set_option maxRecDepth 10000
set_option maxHeartbeats 1000000

theorem relaxed_All_does (m : List Bool) (l : List Int) (h : ∀ k : Nat, k < l.length → 0 ≤ nth l k ∧ nth l k < m.length) : Does Try.prog false 67 [.d (bools m), .d (ints l)] (Bo (decide (AllP m l))) := by
 refine Does.of_body Try.func67 rfl rfl (by simp) Try.call67 (fun w0 O0 => ?_); refine .lenLe (n := 0) rfl (fun len0 => ?_); refine .lenLe (n := 1) rfl (fun len1 => ?_); refine .seq ?_; refine .region ?_; refine .a ?_; refine .sq ?_; refine .seq ?_; refine .seq ?_; refine .region ?_; refine .m ?_; refine .x (OpSem.lenL rfl rfl es22) ?_; refine .m ?_; refine .sq ?_; refine .block ?_; refine .loop (X := Nat) (fun k => k ≤ l.length ∧ ∀ i : Nat, i < k → nth m (nth l i) = true) (fun k => [(0, .d (bools m)), (7, .d (ints l)), (8, I (l.length)), (9, I (k))]) (fun k => []) (fun k => l.length - k) 0 ⟨by omega, by simp⟩ ?_ ?_
 ·exact .sl <| .sl <| .sl <| .slot rfl (Le.of_eq (by simp)) <| .nil
 ·rintro k ⟨hkl, hinv⟩
  refine .seq ?_; refine .region ?_; refine .x (.b blss) ?_; refine .sq ?_; refine .seq ?_; refine .cond rfl (fun c10 => ?_) (fun c10 => ?_)
  ·have hk : k < l.length := by simpa using c10
   have hh := h k hk
   refine .skip ?_; refine .seq ?_; refine .seq ?_; refine .block ?_; refine .seq ?_; refine .region ?_; refine .x (OpSem.idxL rfl rfl rfl es22 (by omega) (by omega)) ?_; refine .x (OpSem.load1 rfl rfl vs3 rfl) ?_; refine .a ?_; refine .z ?_; refine .m ?_; refine .m ?_; refine .x (OpSem.idxL rfl rfl rfl es105 (by omega) (by omega)) ?_; refine .x (OpSem.load1 rfl rfl vs4 rfl) ?_; refine .x (OpSem.not rfl rfl) ?_; refine .sq ?_; refine .cond rfl (fun c17 => ?_) (fun c17 => ?_)
   ·have hb : ¬ nth m (nth l k) = true := by simpa using c17
    refine .seq ?_; refine .region ?_; refine .a ?_; refine .sq ?_; refine .ret ?_; refine .block_ret ?_; refine .pass_ret ?_; refine .pass_ret ?_; refine .block_ret ?_; refine .pass_ret ?_; exact .ret rfl (.tmp rfl <| .nil) rfl (Le.bo (decide_eq_false (fun h => hb (h k hk))).symm)
   ·have hb : nth m (nth l k) = true := by simpa using c17
    refine .skip ?_; refine .block_normal ?_; refine .y ?_; refine .x .ad ?_; refine .m ?_; refine .nil ?_; refine .again (k + 1) ⟨by omega, all_succ hinv hb⟩ ?_ (by omega); exact .sl <| .sl <| .sl <| .slot rfl (Le.of_eq (by simp)) <| .nil
  ·have hk : k = l.length := by simp at c10; omega
   refine .exit ?_; refine .pass_exit ?_; refine .pass_exit ?_; refine .block_same ?_; refine .z ?_; refine .a ?_; refine .sq ?_; refine .ret ?_; exact .ret rfl (.tmp rfl <| .nil) rfl (Le.bo (decide_eq_true (by subst hk; exact hinv)).symm)

theorem relaxed_Close_does (t : Tsk) (s : List Int) (fn : Nat) (d1 d2 : List D) (use : Nat → Bool) (ht : TskOk t) (hs : ∀ p, p ∈ s → 0 ≤ p ∧ p < t.facts) (hf : ∀ i : Nat, i < t.ops.length → Does Try.prog false fn [I i, .p d1, .p d2] (Bo (use i))) : DoesO Try.prog 89 [tskS t, .d (ints s), .f fn [] [.p d1, .p d2]] 1 4 (((cloL t s use).map fun b => [D.v (.bool b)])) := by
 have htf := ht.1
 refine DoesO.of_body Try.func89 rfl rfl (by simp) Try.call89 (fun w0 O0 => ?_); refine .lenG (n := 0) (i := 1) rfl rfl (fun len0_1 => ?_); refine .lenG (n := 0) (i := 2) rfl rfl (fun len0_2 => ?_); refine .lenG (n := 0) (i := 3) rfl rfl (fun len0_3 => ?_); refine .lenLe (n := 1) rfl (fun len1 => ?_); refine .seq ?_; refine .region ?_; refine .semM (OpSem.box 3 rfl rfl rfl rfl) rfl rfl (by decide) ?_; refine .a ?_; refine .z ?_; refine .x (.f fo25_0) ?_; refine .x (.l vs3) ?_; refine .semM (OpSem.makeSlice 17 rfl rfl rfl es105 ze105 rfl rfl (by decide) bye105 (by omega) (by omega) (by omega)) rfl rfl (by decide) ?_; refine .a ?_; refine .sq ?_; refine .seq ?_; refine .seq ?_; refine .region ?_; refine .m ?_; refine .x (OpSem.lenL rfl rfl es22) ?_; refine .m ?_; refine .sq ?_; refine .block ?_; refine .loop (X := Nat) (fun k => k ≤ s.length) (fun k => [(2, .f fn [] [.p d1, .p d2]), (3, .r 3 0), (7, .o 17), (18, .d (ints s)), (19, I (s.length)), (20, I (k))]) (fun k => [(17, .own 1 4 ((mkTo t.facts.toNat s k).map fun b => [D.v (.bool b)])), (3, .box [I (t.facts), .d (ints t.ini), .d (ints t.goal), .d (sopsD t.ops)])]) (fun k => s.length - k) 0 (by omega) ?_ ?_
 ·exact .sl <| .sl <| .sl <| .sl <| .sl <| .slot rfl (Le.of_eq (by simp)) <| .memEq rfl (by rw [el105]; first | (simp [mkTo]; done) | (simp [mkTo]; rfl)) <| .mem rfl <| .nil
 ·rintro k hkl
  refine .seq ?_; refine .region ?_; refine .x (.b blss) ?_; refine .sq ?_; refine .seq ?_; refine .cond rfl (fun c21 => ?_) (fun c21 => ?_)
  ·have hk : k < s.length := by simpa using c21
   have hsk := hs _ (nth_mem (l := s) (n := k) (by omega) (by omega))
   refine .skip ?_; refine .seq ?_; refine .seq ?_; refine .block ?_; refine .seq ?_; refine .region ?_; refine .x (OpSem.idxL rfl rfl rfl es22 (by omega) (by omega)) ?_; refine .x (OpSem.load1 rfl rfl vs3 rfl) ?_; refine .a ?_; refine .y ?_; refine .m ?_; refine .m ?_; refine .x (OpSem.idxo rfl rfl rfl rfl es105 (by omega) (by simp [mkTo_len]; omega)) ?_; refine .storeq rfl rfl rfl rfl rfl rfl rfl vs4 (rows_get (by omega) (by rw [mkTo_len]; omega)) (by simp) ?_; refine .nil ?_; refine .block_normal ?_; refine .y ?_; refine .x .ad ?_; refine .m ?_; refine .nil ?_; refine .again (k + 1) (by omega) ?_ (by omega); exact .sl <| .sl <| .sl <| .sl <| .sl <| .slot rfl (Le.of_eq (by simp)) <| .memEq rfl (by exact congrArg (Mo.own 1 4) (rows_set (f := fun b => [D.v (.bool b)]))) <| .mem rfl <| .nil
  ·have hk : k = s.length := by simp at c21; omega
   subst hk
   refine .exit ?_; refine .pass_exit ?_; refine .pass_exit ?_; refine .block_same ?_; refine .seq ?_; refine .seq ?_; refine .seq ?_; refine .region ?_; refine .a ?_; refine .sq ?_; refine .block ?_; refine .loop (X := (List Bool × Bool)) (fun x => LInv t s use x) (fun x => [(2, .f fn [] [.p d1, .p d2]), (3, .r 3 0), (7, .o 17), (10, Bo (x.2))]) (fun x => [(17, .own 1 4 (x.1.map fun b => [D.v (.bool b)])), (3, .box [I (t.facts), .d (ints t.ini), .d (ints t.goal), .d (sopsD t.ops)])]) (fun x => mMu x) (mkTo t.facts.toNat s s.length, true) (lInv_0 hs htf.1) ?_ ?_
   ·exact .sl <| .sl <| .sl <| .sl <| .memEq rfl rfl <| .mem rfl <| .nil
   ·rintro x hinv
    refine .seq ?_; refine .seq ?_; refine .region ?_; refine .m ?_; refine .sq ?_; refine .cond rfl (fun c28 => ?_) (fun c28 => ?_)
    ·have hx2 : x.2 = true := c28
     have hse : (x.1, true) = x := by rw [← hx2]
     refine .skip ?_; refine .seq ?_; refine .block ?_; refine .seq ?_; refine .region ?_; refine .a ?_; refine .z ?_; refine .x (.f fo25_3) ?_; refine .x (.l vs23) ?_; refine .x (OpSem.lenL rfl rfl es23) ?_; refine .m ?_; refine .sq ?_; refine .block ?_; refine .loop (X := Nat) (fun i => i ≤ t.ops.length) (fun i => [(2, .f fn [] [.p d1, .p d2]), (3, .r 3 0), (7, .o 17), (10, Bo ((clTo t use (x.1, false) i).2)), (30, .d (sopsD t.ops)), (31, I (t.ops.length)), (32, I (i))]) (fun i => [(17, .own 1 4 (((clTo t use (x.1, false) i).1).map fun b => [D.v (.bool b)])), (3, .box [I (t.facts), .d (ints t.ini), .d (ints t.goal), .d (sopsD t.ops)])]) (fun i => t.ops.length - i) 0 (by omega) ?_ ?_
     ·exact .sl <| .sl <| .sl <| .slot rfl (Le.bo rfl) <| .sl <| .sl <| .slot rfl (Le.of_eq (by simp)) <| .memEq rfl rfl <| .mem rfl <| .nil
     ·rintro i hil
      refine .seq ?_; refine .region ?_; refine .x (.b blss) ?_; refine .sq ?_; refine .seq ?_; refine .cond rfl (fun c33 => ?_) (fun c33 => ?_)
      ·have hi : i < t.ops.length := by simpa using c33
       have hCI := (clTo_inv ht hs (d := (x.1, false)) hinv.1 (i := i) (by omega)).1
       have hpre := set_rng (ht.2 i hi).1
       have hadd := set_rng (ht.2 i hi).2.1
       have hadl := setP_len (ht.2 i hi).2.1 htf.2
       refine .skip ?_; refine .seq ?_; refine .seq ?_; refine .block ?_; refine .seq ?_; refine .region ?_; refine .m ?_; refine .x (OpSem.idxL rfl rfl rfl es23 (by omega) (by omega)) ?_; refine .x (OpSem.loadN rfl rfl vs35 (by first | decide | simp) rfl) ?_; refine .semM (OpSem.alloc 12 rfl zc35 rfl) rfl rfl (by decide) ?_; refine .a ?_; refine .sb vs35 ?_; refine .sq ?_; refine .seq ?_; refine .seq ?_; refine .region ?_; refine .m ?_; refine .m ?_; refine .x (OpSem.call0 (hf _ hi) rfl rfl rfl rfl (Les.refl _)) ?_; refine .x (OpSem.not rfl rfl) ?_; refine .m ?_; refine .split (n := 41) rfl (fun c41 => ?_) (fun c41 => ?_)
       ·have hst : clTo t use (x.1, false) (i + 1) = (clTo t use (x.1, false) i) := by show clS t use (clTo t use (x.1, false) i) i = _; unfold clS; rw [if_neg (fun h => by simp [h.1] at c41)]
        refine .hf c41 ?_; refine .hf c41 ?_; refine .hf c41 ?_; refine .hf c41 ?_; refine .hf c41 ?_; refine .x (OpSem.pickT rfl rfl c41 rfl) ?_; refine .sq ?_; refine .condT rfl rfl ?_; refine .exit ?_; refine .pass_exit ?_; refine .block_same ?_; refine .y ?_; refine .x .ad ?_; refine .m ?_; refine .nil ?_; refine .again (i + 1) (by omega) ?_ (by omega); exact .sl <| .sl <| .sl <| .slot rfl (Le.bo (by rw [hst])) <| .sl <| .sl <| .slot rfl (Le.of_eq (by simp)) <| .memEq rfl (by first | (rw [hst]; rfl) | rw [hst]) <| .mem rfl <| .nil
       ·refine .ht c41 ?_; refine .m ?_; refine .ht c41 ?_; refine .x (.f fo35_0) ?_; refine .ht c41 ?_; refine .x (.l vs22) ?_; refine .ht c41 ?_; refine .x (OpSem.call (relaxed_All_does (clTo t use (x.1, false) i).1 (nth t.ops i).pre (fun k hk => by have q := hpre k hk; have q2 := hCI.len; omega)) (.inr rfl) rfl rfl rfl rfl (Les.refl _)) ?_; refine .ht c41 ?_; refine .x (OpSem.not rfl rfl) ?_; refine .x (OpSem.pickF rfl rfl c41 rfl) ?_; refine .sq ?_; refine .cond rfl (fun c47 => ?_) (fun c47 => ?_)
        ·have hst : clTo t use (x.1, false) (i + 1) = (clTo t use (x.1, false) i) := by show clS t use (clTo t use (x.1, false) i) i = _; unfold clS; rw [if_neg (fun h => by rw [decide_eq_true h.2] at c47; simp at c47)]
         refine .exit ?_; refine .pass_exit ?_; refine .block_same ?_; refine .y ?_; refine .x .ad ?_; refine .m ?_; refine .nil ?_; refine .again (i + 1) (by omega) ?_ (by omega); exact .sl <| .sl <| .sl <| .slot rfl (Le.bo (by rw [hst])) <| .sl <| .sl <| .slot rfl (Le.of_eq (by simp)) <| .memEq rfl (by first | (rw [hst]; rfl) | rw [hst]) <| .mem rfl <| .nil
        ·have hu : use i = true := by simpa using c41
         have ha : AllP (clTo t use (x.1, false) i).1 (nth t.ops i).pre := by simpa using c47
         have hst : clTo t use (x.1, false) (i + 1) = addTo2 (nth t.ops i).add (clTo t use (x.1, false) i) (nth t.ops i).add.length := by show clS t use (clTo t use (x.1, false) i) i = _; unfold clS; rw [if_pos ⟨hu, ha⟩]
         refine .skip ?_; refine .z ?_; refine .x (.f fo35_1) ?_; refine .x (.l vs22) ?_; refine .x (OpSem.lenL rfl rfl es22) ?_; refine .m ?_; refine .sq ?_; refine .block ?_; refine .loop (X := Nat) (fun j => j ≤ (nth t.ops i).add.length) (fun j => [(2, .f fn [] [.p d1, .p d2]), (3, .r 3 0), (7, .o 17), (10, Bo ((addTo2 (nth t.ops i).add (clTo t use (x.1, false) i) j).2)), (30, .d (sopsD t.ops)), (31, I (t.ops.length)), (32, I (i)), (49, .d (ints ((nth t.ops i).add))), (50, I (((nth t.ops i).add).length)), (51, I (j))]) (fun j => [(17, .own 1 4 (((addTo2 (nth t.ops i).add (clTo t use (x.1, false) i) j).1).map fun b => [D.v (.bool b)])), (3, .box [I (t.facts), .d (ints t.ini), .d (ints t.goal), .d (sopsD t.ops)])]) (fun j => (nth t.ops i).add.length - j) 0 (by omega) ?_ ?_
         ·exact .sl <| .sl <| .sl <| .slot rfl (Le.bo rfl) <| .sl <| .sl <| .sl <| .sl <| .sl <| .slot rfl (Le.of_eq (by simp)) <| .memEq rfl rfl <| .mem rfl <| .nil
         ·rintro j hjl
          refine .seq ?_; refine .region ?_; refine .x (.b blss) ?_; refine .sq ?_; refine .seq ?_; refine .cond rfl (fun c52 => ?_) (fun c52 => ?_)
          ·have hj : j < (nth t.ops i).add.length := by simpa using c52
           have hAJ := (addTo2_inv hadd (pre_rch ht hCI hi hu ha) hCI hs (j := j) (by omega)).1
           have hal := hAJ.len
           have hpj := hadd j hj
           refine .skip ?_; refine .seq ?_; refine .seq ?_; refine .block ?_; refine .seq ?_; refine .region ?_; refine .x (OpSem.idxL rfl rfl rfl es22 (by omega) (by omega)) ?_; refine .x (OpSem.load1 rfl rfl vs3 rfl) ?_; refine .a ?_; refine .z ?_; refine .m ?_; refine .m ?_; refine .split (n := 56) rfl (fun c56 => ?_) (fun c56 => ?_)
           ·refine .hf c56 ?_; refine .hf c56 ?_; refine .hf c56 ?_; refine .hf c56 ?_; refine .hf c56 ?_; refine .x (OpSem.pickT rfl rfl c56 rfl) ?_; refine .a ?_; refine .y ?_; refine .m ?_; refine .m ?_; refine .x (OpSem.idxo rfl rfl rfl rfl es105 (by omega) (by simp; omega)) ?_; refine .storeq rfl rfl rfl rfl rfl rfl rfl vs4 (rows_get (by omega) (by omega)) (by simp) ?_; refine .nil ?_; refine .block_normal ?_; refine .y ?_; refine .x .ad ?_; refine .m ?_; refine .nil ?_; refine .again (j + 1) (by omega) ?_ (by omega); exact .sl <| .sl <| .sl <| .slot rfl (Le.bo (by simp only [addTo2]; simp_all)) <| .sl <| .sl <| .sl <| .sl <| .sl <| .slot rfl (Le.of_eq (by simp)) <| .memEq rfl (by exact congrArg (Mo.own 1 4) (rows_set (f := fun b => [D.v (.bool b)]))) <| .mem rfl <| .nil
           ·refine .ht c56 ?_; refine .m ?_; refine .ht c56 ?_; refine .m ?_; refine .ht c56 ?_; refine .x (OpSem.idxo rfl rfl rfl rfl es105 (by omega) (by simp; omega)) ?_; refine .ht c56 ?_; refine .x (OpSem.loadq rfl rfl rfl vs4 (rows_get (by omega) (by omega)) rfl) ?_; refine .ht c56 ?_; refine .x (OpSem.not rfl rfl) ?_; refine .x (OpSem.pickF rfl rfl c56 rfl) ?_; refine .a ?_; refine .y ?_; refine .m ?_; refine .m ?_; refine .x (OpSem.idxo rfl rfl rfl rfl es105 (by omega) (by simp; omega)) ?_; refine .storeq rfl rfl rfl rfl rfl rfl rfl vs4 (rows_get (by omega) (by omega)) (by simp) ?_; refine .nil ?_; refine .block_normal ?_; refine .y ?_; refine .x .ad ?_; refine .m ?_; refine .nil ?_; refine .again (j + 1) (by omega) ?_ (by omega); exact .sl <| .sl <| .sl <| .slot rfl (Le.bo (by simp only [addTo2]; simp_all)) <| .sl <| .sl <| .sl <| .sl <| .sl <| .slot rfl (Le.of_eq (by simp)) <| .memEq rfl (by exact congrArg (Mo.own 1 4) (rows_set (f := fun b => [D.v (.bool b)]))) <| .mem rfl <| .nil
          ·have hj : j = (nth t.ops i).add.length := by simp at c52; omega
           subst hj
           refine .exit ?_; refine .pass_exit ?_; refine .pass_exit ?_; refine .block_same ?_; refine .block_normal ?_; refine .y ?_; refine .x .ad ?_; refine .m ?_; refine .nil ?_; refine .again (i + 1) (by omega) ?_ (by omega); exact .sl <| .sl <| .sl <| .slot rfl (Le.bo (by rw [hst])) <| .sl <| .sl <| .slot rfl (Le.of_eq (by simp)) <| .memEq rfl (by first | (rw [hst]; rfl) | rw [hst]) <| .mem rfl <| .nil
      ·have hi : i = t.ops.length := by simp at c33; omega
       subst hi
       refine .exit ?_; refine .pass_exit ?_; refine .pass_exit ?_; refine .block_same ?_; refine .block_normal ?_; refine .again (clTo t use (x.1, false) t.ops.length) (lInv_s ht hs hinv.1).1 ?_ (by have q := (lInv_s ht hs hinv.1).2; rwa [hse] at q)
       exact .sl <| .sl <| .sl <| .sl <| .memEq rfl rfl <| .mem rfl <| .nil
    ·have hx2 : x.2 = false := c28
     have hend := lInv_end ht hs hinv hx2
     refine .exit ?_; refine .pass_exit ?_; refine .pass_exit ?_; refine .block_same ?_; refine .z ?_; refine .m ?_; refine .a ?_; refine .sq ?_; refine .ret ?_; exact .retO2 rfl rfl rfl (by simp) (by rw [hend])

end Go.Proofs.Ytlidcpmdgceboaa
end

section
/- Landmarks. -/

namespace Go.Eng
open Go
def useP (t : Tsk) (p : Int) (i : Nat) : Bool := !decide (p ∈ (nth t.ops i).add)
noncomputable def wtoL (t : Tsk) (p : Int) : List Bool := cloL t t.ini (useP t p)
noncomputable def lmP (t : Tsk) (p : Int) : Bool := decide (p ∈ t.ini) || !decide (AllP (wtoL t p) t.goal)
noncomputable def lmTo (t : Tsk) : Nat → List Int
  | 0 => []
  | k + 1 => if lmP t k = true then lmTo t k ++ [(k : Int)] else lmTo t k
noncomputable def lmL (t : Tsk) : List Int := lmTo t t.facts.toNat
noncomputable def acP (t : Tsk) (p : Int) (i : Nat) : Bool := !decide (p ∈ t.ini) && (decide (p ∈ (nth t.ops i).add) && decide (AllP (wtoL t p) (nth t.ops i).pre))
noncomputable def acTo (t : Tsk) (p : Int) : Nat → List Int
  | 0 => []
  | k + 1 => if acP t p k = true then acTo t p k ++ [(k : Int)] else acTo t p k
noncomputable def acL (t : Tsk) (p : Int) : List Int := acTo t p t.ops.length
noncomputable def acsTo (t : Tsk) (k : Nat) : List (List Int) := ((lmL t).take k).map fun p => acL t p
noncomputable def lmR (t : Tsk) : List Int := if tskF t = (0, 0) then lmL t else []
noncomputable def acR (t : Tsk) : List (List Int) := if tskF t = (0, 0) then acsTo t (lmL t).length else []
theorem lmTo_len {t : Tsk} : ∀ {k : Nat}, (lmTo t k).length ≤ k
  | 0 => Nat.le_refl _
  | k + 1 => by
    have := lmTo_len (t := t) (k := k)
    simp only [lmTo]; split
    · simp; omega
    · omega
theorem acTo_len {t : Tsk} {p : Int} : ∀ {k : Nat}, (acTo t p k).length ≤ k
  | 0 => Nat.le_refl _
  | k + 1 => by
    have := acTo_len (t := t) (p := p) (k := k)
    simp only [acTo]; split
    · simp; omega
    · omega
theorem lm_t {t : Tsk} {k : Nat} (h : lmP t k = true) : lmTo t (k + 1) = lmTo t k ++ [(k : Int)] := by simp only [lmTo]; rw [if_pos h]
theorem lm_f {t : Tsk} {k : Nat} (h : ¬ lmP t k = true) : lmTo t (k + 1) = lmTo t k := by simp only [lmTo]; rw [if_neg h]
theorem ac_t {t : Tsk} {p : Int} {k : Nat} (h : acP t p k = true) : acTo t p (k + 1) = acTo t p k ++ [(k : Int)] := by simp only [acTo]; rw [if_pos h]
theorem ac_f {t : Tsk} {p : Int} {k : Nat} (h : ¬ acP t p k = true) : acTo t p (k + 1) = acTo t p k := by simp only [acTo]; rw [if_neg h]
theorem acs_s {t : Tsk} {k : Nat} (hk : k < (lmL t).length) : acsTo t (k + 1) = acsTo t k ++ [acL t (nth (lmL t) k)] := by unfold acsTo; rw [tk_s hk]; simp
theorem wtoL_len {t : Tsk} {p : Int} : (wtoL t p).length = t.facts.toNat := cloL_len
theorem lmR_0 {t : Tsk} (h : tskF t = (0, 0)) : lmR t = lmL t := by unfold lmR; rw [if_pos h]
theorem lmR_1 {t : Tsk} (h : tskF t ≠ (0, 0)) : lmR t = [] := by unfold lmR; rw [if_neg h]
theorem acR_0 {t : Tsk} (h : tskF t = (0, 0)) : acR t = acsTo t (lmL t).length := by unfold acR; rw [if_pos h]
theorem acR_1 {t : Tsk} (h : tskF t ≠ (0, 0)) : acR t = [] := by unfold acR; rw [if_neg h]
/-- A valid task. -/
structure TskV (t : Tsk) : Prop where
  facts : 0 ≤ t.facts ∧ t.facts ≤ 24
  ini : SetP t.facts t.ini
  goal : SetP t.facts t.goal
  ops : t.ops.length ≤ 40
  op : ∀ i : Nat, i < t.ops.length → (SetP t.facts (nth t.ops i).pre ∧ SetP t.facts (nth t.ops i).add ∧ SetP t.facts (nth t.ops i).del ∧ DisjP (nth t.ops i).add (nth t.ops i).del) ∧ 0 ≤ (nth t.ops i).cost ∧ (nth t.ops i).cost ≤ 100
theorem opCode_ok {n : Int} {o : SOp} (h : opCode n o = 0) : (SetP n o.pre ∧ SetP n o.add ∧ SetP n o.del ∧ DisjP o.add o.del) ∧ 0 ≤ o.cost ∧ o.cost ≤ 100 := by
  by_cases h1 : SetP n o.pre ∧ SetP n o.add ∧ SetP n o.del ∧ DisjP o.add o.del
  · by_cases h2 : o.cost < 0 ∨ 100 < o.cost
    · rw [opCode_3 h1 h2] at h; cases h
    · exact ⟨h1, by omega, by omega⟩
  · rw [opCode_5 h1] at h; cases h
theorem tskF_v {t : Tsk} (h : tskF t = (0, 0)) : TskV t := by
  obtain ⟨h1, h2, h3, h4, h5, _⟩ := tskF_inv (congrArg Prod.fst h)
  refine ⟨h1, h2, h3, h4, fun i hi => opCode_ok ?_⟩
  have := firstF_all h5 i hi
  by_cases c : opCode t.facts (nth t.ops i) = 0
  · exact c
  · rw [if_neg c] at this; exact absurd (congrArg Prod.fst this) c
theorem TskV.ok {t : Tsk} (h : TskV t) : TskOk t := ⟨h.facts, fun i hi => ⟨(h.op i hi).1.1, (h.op i hi).1.2.1, (h.op i hi).1.2.2.1⟩⟩
end Go.Eng
end
