/- The engine, part 11: the words of the walk: splits, guards, open regions step by step. -/
import Derived.Test.YtohlmcebphcokaaEng10
set_option linter.unusedSimpArgs false
set_option linter.unnecessarySimpa false
set_option linter.unusedVariables false
namespace Go.Eng
open Go.RowKit (Below)

section
variable {P : Program} {N : Nat} {w0 : World} {O0 : Nat → Nat} {ops : Array Oper} {Q : Post} {e e0 : Env} {M M0 : Mem} {hs : List Nat} {rest : List Oper} {o : Oper} {s : S}

theorem TrOps.split {n : Nat} {b : Bool} (hn : look e n = some (.d (.v (.bool b)))) (ht : b = true → TrOps P N w0 O0 ops Q e M rest) (hf : b = false → TrOps P N w0 O0 ops Q e M rest) : TrOps P N w0 O0 ops Q e M rest := by
  cases b
  · exact hf rfl
  · exact ht rfl

theorem Tr.condT {c : Operand} {x y : Code} {b : Bool} (hc : opS e c = some (.d (.v (.bool b)))) (hb : b = true) (h : Tr P N w0 O0 e M x Q) : Tr P N w0 O0 e M (.cond c x y) Q :=
  Tr.cond hc (fun _ => h) (fun h' => by rw [hb] at h'; cases h')
theorem Tr.condF {c : Operand} {x y : Code} {b : Bool} (hc : opS e c = some (.d (.v (.bool b)))) (hb : b = false) (h : Tr P N w0 O0 e M y Q) : Tr P N w0 O0 e M (.cond c x y) Q :=
  Tr.cond hc (fun h' => by rw [hb] at h'; cases h') (fun _ => h)

theorem RepD.len {O : Nat → Nat} {w : World} {x : Value} {k : Nat} {α : Type} {l : List α} {f : α → List D} (h : RepD O w x (.s k (l.map f))) : (l.length : Int) ≤ 9223372036854775807 := by
  obtain ⟨_, _, _, h1, h2⟩ := h.slice
  simp [maxLen] at h1 h2
  omega
/-- A slice is never longer than an int can say. -/
theorem Tr.lenLe {c : Code} {n k : Nat} {α : Type} {l : List α} {f : α → List D} (hn : look e n = some (.d (.s k (l.map f)))) (h : (l.length : Int) ≤ 9223372036854775807 → Tr P N w0 O0 e M c Q) : Tr P N w0 O0 e M c Q := by
  intro O H a w hst
  obtain ⟨x, _, hr⟩ := hst.slots _ _ hn
  cases hr with
  | d _ _ hd => exact h hd.len O H a w hst
theorem Tr.lenG {c : Code} {n i k : Nat} {cs : List S} {α : Type} {l : List α} {f : α → List D} (hn : look e n = some (.g cs)) (hi : cs[i]? = some (.d (.s k (l.map f)))) (h : (l.length : Int) ≤ 9223372036854775807 → Tr P N w0 O0 e M c Q) : Tr P N w0 O0 e M c Q := by
  intro O H a w hst
  obtain ⟨x, _, hr⟩ := hst.slots _ _ hn
  cases hr with
  | g xs ss hl _ hg =>
    have hlt : i < xs.length := by rw [hl]; exact (List.getElem?_eq_some_iff.1 hi).1
    have := hg i _ _ (List.getElem?_eq_getElem hlt) hi
    generalize xs[i] = z at this
    cases this with
    | d _ _ hd => exact h hd.len O H a w hst

/-- A guarded operation that is wanted. -/
theorem TrOps.gT {j d' : Nat} {b c : Bool} {oj : Oper} (hg : o.guard = some (j, b)) (hj : ops[j]? = some oj) (hdj : oj.dst = some d') (hb : look e d' = some (.d (.v (.bool c)))) (hc : c = b)
    (h : TrOps P N w0 O0 ops Q e M ({ o with guard := none } :: rest)) : TrOps P N w0 O0 ops Q e M (o :: rest) := by
  subst hc; exact TrOps.guardT hg hj hdj hb h
theorem TrOps.gF {j d d' : Nat} {b c : Bool} {oj : Oper} (hg : o.guard = some (j, b)) (hj : ops[j]? = some oj) (hdj : oj.dst = some d') (hb : look e d' = some (.d (.v (.bool c)))) (hc : c = !b) (hd : o.dst = some d) (hdN : d < N)
    (h : TrOps P N w0 O0 ops Q ((d, .d (.v undef)) :: e) M rest) : TrOps P N w0 O0 ops Q e M (o :: rest) :=
  TrOps.guardF hg hj hdj hb (by subst hc; cases b <;> rfl) hd hdN h
theorem TrOps.gU {j d d' : Nat} {b : Bool} {oj : Oper} (hg : o.guard = some (j, b)) (hj : ops[j]? = some oj) (hdj : oj.dst = some d') (hb : look e d' = some (.d (.v undef))) (hd : o.dst = some d) (hdN : d < N)
    (h : TrOps P N w0 O0 ops Q ((d, .d (.v undef)) :: e) M rest) : TrOps P N w0 O0 ops Q e M (o :: rest) :=
  TrOps.guardF hg hj hdj hb rfl hd hdN h

theorem finE_snoc {e : Env} {ps : List PO} {p : PO} : finE e (ps ++ [p]) = p.env (finE e ps) := by simp [finE]

theorem PW.snoc {B : Nat} {p : PO} : ∀ {os : List Oper} {ps : List PO} {e : Env}, PW P B ops hs M0 os ps e → PStep P B ops hs M0 (finE e ps) o p → PW P B ops hs M0 (os ++ [o]) (ps ++ [p]) e
  | [], [], e, _, h => ⟨h, trivial⟩
  | [], _ :: _, _, h, _ => h.elim
  | _ :: _, [], _, h, _ => h.elim
  | o' :: os, p' :: ps, e, ⟨h1, h2⟩, h => ⟨h1, PW.snoc h2 (by simpa [finE] using h)⟩

/-- In the middle of an open region's lexical walk. -/
def PC (P : Program) (N : Nat) (w0 : World) (O0 : Nat → Nat) (id : Nat) (ops : Array Oper) (Q : Post) (hs : List Nat) (e0 : Env) (M0 : Mem) (ps : List PO) (e : Env) (rest : List Oper) : Prop :=
  ∀ pre : List Oper, ops.toList = pre ++ rest → PW P w0.heap.size ops hs M0 pre ps e0 → e = finE e0 ps → Tr P N w0 O0 e0 M0 (.region id ops true) Q

variable {id : Nat} {ps : List PO}

theorem PC.start {l : List Oper} (hs : List Nat) (h : PC P N w0 O0 id l.toArray Q hs e M [] e l) : Tr P N w0 O0 e M (.region id l.toArray true) Q := h [] (by simp) trivial rfl

theorem PC.sem (hsem : OpSem P w0.heap.size o e (dropM hs M0) s none) {d : Nat} (hg : o.guard = none) (hd : o.dst = some d)
    (h : PC P N w0 O0 id ops Q hs e0 M0 (ps ++ [⟨d, s, none, none, true⟩]) ((d, s) :: e) rest) : PC P N w0 O0 id ops Q hs e0 M0 ps e (o :: rest) := by
  intro pre hops hpw he
  subst he
  exact h (pre ++ [o]) (by simp [hops]) (hpw.snoc ⟨rfl, hd, .inl ⟨by simp [Met, hg], hsem⟩⟩) (by rw [finE_snoc]; rfl)
theorem PC.semM {h0 : Nat} {m0 : Mo} (hsem : OpSem P w0.heap.size o e (dropM hs M0) s (some (h0, m0))) {d : Nat} (hg : o.guard = none) (hd : o.dst = some d)
    (h : PC P N w0 O0 id ops Q hs e0 M0 (ps ++ [⟨d, s, some (h0, m0), none, true⟩]) ((d, s) :: e) rest) : PC P N w0 O0 id ops Q hs e0 M0 ps e (o :: rest) := by
  intro pre hops hpw he
  subst he
  exact h (pre ++ [o]) (by simp [hops]) (hpw.snoc ⟨rfl, hd, .inl ⟨by simp [Met, hg], hsem⟩⟩) (by rw [finE_snoc]; rfl)
theorem PC.gT {j d d' : Nat} {b c : Bool} {oj : Oper} (hsem : OpSem P w0.heap.size o e (dropM hs M0) s none) (hg : o.guard = some (j, b)) (hj : ops[j]? = some oj) (hdj : oj.dst = some d') (hb : look e d' = some (.d (.v (.bool c)))) (hc : c = b) (hd : o.dst = some d)
    (h : PC P N w0 O0 id ops Q hs e0 M0 (ps ++ [⟨d, s, none, none, true⟩]) ((d, s) :: e) rest) : PC P N w0 O0 id ops Q hs e0 M0 ps e (o :: rest) := by
  intro pre hops hpw he
  subst he
  exact h (pre ++ [o]) (by simp [hops]) (hpw.snoc ⟨rfl, hd, .inl ⟨by simp only [Met, hg]; exact ⟨oj, d', _, hj, hdj, hb, by simp [isB, hc]⟩, hsem⟩⟩) (by rw [finE_snoc]; rfl)
theorem PC.guardF {j d d' : Nat} {b : Bool} {v : Value} {oj : Oper} (hg : o.guard = some (j, b)) (hj : ops[j]? = some oj) (hdj : oj.dst = some d') (hb : look e d' = some (.d (.v v))) (hv : isB b v = false) (hd : o.dst = some d)
    (h : PC P N w0 O0 id ops Q hs e0 M0 (ps ++ [⟨d, .d (.v undef), none, none, true⟩]) ((d, .d (.v undef)) :: e) rest) : PC P N w0 O0 id ops Q hs e0 M0 ps e (o :: rest) := by
  intro pre hops hpw he
  subst he
  exact h (pre ++ [o]) (by simp [hops]) (hpw.snoc ⟨rfl, hd, .inr ⟨by simp only [Met, hg]; exact ⟨oj, d', _, hj, hdj, hb, hv.symm⟩, rfl, rfl⟩⟩) (by rw [finE_snoc]; rfl)
theorem PC.gF {j d d' : Nat} {b c : Bool} {oj : Oper} (hg : o.guard = some (j, b)) (hj : ops[j]? = some oj) (hdj : oj.dst = some d') (hb : look e d' = some (.d (.v (.bool c)))) (hc : c = !b) (hd : o.dst = some d)
    (h : PC P N w0 O0 id ops Q hs e0 M0 (ps ++ [⟨d, .d (.v undef), none, none, true⟩]) ((d, .d (.v undef)) :: e) rest) : PC P N w0 O0 id ops Q hs e0 M0 ps e (o :: rest) :=
  PC.guardF hg hj hdj hb (by subst hc; cases b <;> rfl) hd h
theorem PC.gU {j d d' : Nat} {b : Bool} {oj : Oper} (hg : o.guard = some (j, b)) (hj : ops[j]? = some oj) (hdj : oj.dst = some d') (hb : look e d' = some (.d (.v undef))) (hd : o.dst = some d)
    (h : PC P N w0 O0 id ops Q hs e0 M0 (ps ++ [⟨d, .d (.v undef), none, none, true⟩]) ((d, .d (.v undef)) :: e) rest) : PC P N w0 O0 id ops Q hs e0 M0 ps e (o :: rest) :=
  PC.guardF hg hj hdj hb rfl hd h
theorem PC.split {n : Nat} {b : Bool} (hn : look e n = some (.d (.v (.bool b)))) (ht : b = true → PC P N w0 O0 id ops Q hs e0 M0 ps e rest) (hf : b = false → PC P N w0 O0 id ops Q hs e0 M0 ps e rest) : PC P N w0 O0 id ops Q hs e0 M0 ps e rest := by
  cases b
  · exact hf rfl
  · exact ht rfl
/-- A store into a variable of the call's own, in the open part. -/
theorem PC.storeb {t : TypeId} {x y : Operand} {h k : Nat} {cs ss : List S} {g : Bool} (i : Nat) (ho : o.op = .store t x y) (hg : o.guard = none) (hd : o.dst = none) (hx : opS e x = some (.r h k)) (hM : look M0 h = some (.box cs)) (hy : opS e y = some s) (hs' : s.cells = some ss)
    (ht : vsz P t = some (g, ss.length)) (hk : k + ss.length ≤ cs.length)
    (hn : PC P N w0 O0 id ops Q hs e0 M0 (ps ++ [⟨i, .u, none, some (h, .box cs, .box (cs.take k ++ ss ++ cs.drop (k + ss.length))), false⟩]) e rest) : PC P N w0 O0 id ops Q hs e0 M0 ps e (o :: rest) := by
  intro pre hops hpw he
  subst he
  refine hn (pre ++ [o]) (by simp [hops]) (hpw.snoc ⟨hd, hg, rfl, hM, OpSt.storeb ho hx hy hs' ht hk⟩) (by rw [finE_snoc]; rfl)
/-- The open part is through. -/
theorem PC.done (hm : P.follows .mixedOrders = true) (hok : parOk ops ps.length = true) (hh : handOk e0 M0 ps = true) (hso : stOk hs ps = true) (hN : ps.all (fun p => !p.ds || decide (p.d < N)) = true)
    (ht : TrOps P N w0 O0 ops Q e (finM M0 ps) rest) : PC P N w0 O0 id ops Q hs e0 M0 ps e rest := by
  intro pre hops hpw he
  subst he
  have hlen : pre.length = ps.length := hpw.get.1
  have hk : ps.length ≤ ops.size := by
    have : ops.size = (pre ++ rest).length := by rw [← hops]; simp
    rw [this, ← hlen]; simp
  refine Tr.par (k := ps.length) (ps := ps) hm ?_ hk hok hh hso hN ?_
  · rw [hops, ← hlen, List.take_left]; exact hpw
  · rw [hops, ← hlen, List.drop_left]; exact ht
theorem PC.done0 (hm : P.follows .mixedOrders = true) (hok : parOk ops ps.length = true) (hh : handOk e0 M0 ps = true) (hso : stOk hs ps = true) (hN : ps.all (fun p => !p.ds || decide (p.d < N)) = true) (hM : finM M0 ps = M0)
    (ht : TrOps P N w0 O0 ops Q e M0 rest) : PC P N w0 O0 id ops Q hs e0 M0 ps e rest := PC.done hm hok hh hso hN (by rw [hM]; exact ht)
theorem PC.done1 (h : Nat) (m : Mo) (hm : P.follows .mixedOrders = true) (hok : parOk ops ps.length = true) (hh : handOk e0 M0 ps = true) (hso : stOk hs ps = true) (hN : ps.all (fun p => !p.ds || decide (p.d < N)) = true) (hM : finM M0 ps = (h, m) :: M0)
    (ht : TrOps P N w0 O0 ops Q e ((h, m) :: M0) rest) : PC P N w0 O0 id ops Q hs e0 M0 ps e rest := PC.done hm hok hh hso hN (by rw [hM]; exact ht)
end
end Go.Eng
