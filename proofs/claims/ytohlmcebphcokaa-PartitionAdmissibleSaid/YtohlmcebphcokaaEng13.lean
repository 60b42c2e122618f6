/- The engine, part 11: the words of the walk: splits, guards, open regions step by step. The engine, part 12: functions that return a slice of their own; a slice and nil compared. The engine, part 13: append to a clipped slice: a new slice of the call's own. -/
import Derived.Test.YtohlmcebphcokaaEng10
import Derived.Laws.Cover3
set_option linter.unusedSimpArgs false
set_option linter.unnecessarySimpa false
set_option linter.unusedVariables false
namespace Go.Eng
open Go.RowKit (Below)

section
variable {P : Program} {N : Nat} {w0 : World} {O0 : Nat → Nat} {ops : Array Oper} {Q : Post} {e e0 : Env} {M M0 : Mem} {hs : List Nat} {rest : List Oper} {o : Oper} {s : S}

theorem TrOps.split {n : Nat} {b : Bool} (hn : look e n = some (.d (.v (.bool b)))) (ht : b = true → TrOps P N w0 O0 ops Q e M rest) (hf : b = false → TrOps P N w0 O0 ops Q e M rest) : TrOps P N w0 O0 ops Q e M rest := by
  cases b
  · exact hf rfl
  · exact ht rfl

theorem Tr.condT {c : Operand} {x y : Code} {b : Bool} (hc : opS e c = some (.d (.v (.bool b)))) (hb : b = true) (h : Tr P N w0 O0 e M x Q) : Tr P N w0 O0 e M (.cond c x y) Q :=
  Tr.cond hc (fun _ => h) (fun h' => by rw [hb] at h'; cases h')
theorem Tr.condF {c : Operand} {x y : Code} {b : Bool} (hc : opS e c = some (.d (.v (.bool b)))) (hb : b = false) (h : Tr P N w0 O0 e M y Q) : Tr P N w0 O0 e M (.cond c x y) Q :=
  Tr.cond hc (fun h' => by rw [hb] at h'; cases h') (fun _ => h)

theorem RepD.len {O : Nat → Nat} {w : World} {x : Value} {k : Nat} {α : Type} {l : List α} {f : α → List D} (h : RepD O w x (.s k (l.map f))) : (l.length : Int) ≤ 9223372036854775807 := by
  obtain ⟨_, _, _, h1, h2⟩ := h.slice
  simp [maxLen] at h1 h2
  omega
/-- A slice is never longer than an int can say. -/
theorem Tr.lenLe {c : Code} {n k : Nat} {α : Type} {l : List α} {f : α → List D} (hn : look e n = some (.d (.s k (l.map f)))) (h : (l.length : Int) ≤ 9223372036854775807 → Tr P N w0 O0 e M c Q) : Tr P N w0 O0 e M c Q := by
  intro O H a w hst
  obtain ⟨x, _, hr⟩ := hst.slots _ _ hn
  cases hr with
  | d _ _ hd => exact h hd.len O H a w hst
theorem Tr.lenG {c : Code} {n i k : Nat} {cs : List S} {α : Type} {l : List α} {f : α → List D} (hn : look e n = some (.g cs)) (hi : cs[i]? = some (.d (.s k (l.map f)))) (h : (l.length : Int) ≤ 9223372036854775807 → Tr P N w0 O0 e M c Q) : Tr P N w0 O0 e M c Q := by
  intro O H a w hst
  obtain ⟨x, _, hr⟩ := hst.slots _ _ hn
  cases hr with
  | g xs ss hl _ hg =>
    have hlt : i < xs.length := by rw [hl]; exact (List.getElem?_eq_some_iff.1 hi).1
    have := hg i _ _ (List.getElem?_eq_getElem hlt) hi
    generalize xs[i] = z at this
    cases this with
    | d _ _ hd => exact h hd.len O H a w hst

/-- A guarded operation that is wanted. -/
theorem TrOps.gT {j d' : Nat} {b c : Bool} {oj : Oper} (hg : o.guard = some (j, b)) (hj : ops[j]? = some oj) (hdj : oj.dst = some d') (hb : look e d' = some (.d (.v (.bool c)))) (hc : c = b)
    (h : TrOps P N w0 O0 ops Q e M ({ o with guard := none } :: rest)) : TrOps P N w0 O0 ops Q e M (o :: rest) := by
  subst hc; exact TrOps.guardT hg hj hdj hb h
theorem TrOps.gF {j d d' : Nat} {b c : Bool} {oj : Oper} (hg : o.guard = some (j, b)) (hj : ops[j]? = some oj) (hdj : oj.dst = some d') (hb : look e d' = some (.d (.v (.bool c)))) (hc : c = !b) (hd : o.dst = some d) (hdN : d < N)
    (h : TrOps P N w0 O0 ops Q ((d, .d (.v undef)) :: e) M rest) : TrOps P N w0 O0 ops Q e M (o :: rest) :=
  TrOps.guardF hg hj hdj hb (by subst hc; cases b <;> rfl) hd hdN h
theorem TrOps.gU {j d d' : Nat} {b : Bool} {oj : Oper} (hg : o.guard = some (j, b)) (hj : ops[j]? = some oj) (hdj : oj.dst = some d') (hb : look e d' = some (.d (.v undef))) (hd : o.dst = some d) (hdN : d < N)
    (h : TrOps P N w0 O0 ops Q ((d, .d (.v undef)) :: e) M rest) : TrOps P N w0 O0 ops Q e M (o :: rest) :=
  TrOps.guardF hg hj hdj hb rfl hd hdN h

theorem finE_snoc {e : Env} {ps : List PO} {p : PO} : finE e (ps ++ [p]) = p.env (finE e ps) := by simp [finE]

theorem PW.snoc {B : Nat} {p : PO} : ∀ {os : List Oper} {ps : List PO} {e : Env}, PW P B ops hs M0 os ps e → PStep P B ops hs M0 (finE e ps) o p → PW P B ops hs M0 (os ++ [o]) (ps ++ [p]) e
  | [], [], e, _, h => ⟨h, trivial⟩
  | [], _ :: _, _, h, _ => h.elim
  | _ :: _, [], _, h, _ => h.elim
  | o' :: os, p' :: ps, e, ⟨h1, h2⟩, h => ⟨h1, PW.snoc h2 (by simpa [finE] using h)⟩

/-- In the middle of an open region's lexical walk. -/
def PC (P : Program) (N : Nat) (w0 : World) (O0 : Nat → Nat) (id : Nat) (ops : Array Oper) (Q : Post) (hs : List Nat) (e0 : Env) (M0 : Mem) (ps : List PO) (e : Env) (rest : List Oper) : Prop :=
  ∀ pre : List Oper, ops.toList = pre ++ rest → PW P w0.heap.size ops hs M0 pre ps e0 → e = finE e0 ps → Tr P N w0 O0 e0 M0 (.region id ops true) Q

variable {id : Nat} {ps : List PO}

theorem PC.start {l : List Oper} (hs : List Nat) (h : PC P N w0 O0 id l.toArray Q hs e M [] e l) : Tr P N w0 O0 e M (.region id l.toArray true) Q := h [] (by simp) trivial rfl

theorem PC.sem (hsem : OpSem P w0.heap.size o e (dropM hs M0) s none) {d : Nat} (hg : o.guard = none) (hd : o.dst = some d)
    (h : PC P N w0 O0 id ops Q hs e0 M0 (ps ++ [⟨d, s, none, none, true⟩]) ((d, s) :: e) rest) : PC P N w0 O0 id ops Q hs e0 M0 ps e (o :: rest) := by
  intro pre hops hpw he
  subst he
  exact h (pre ++ [o]) (by simp [hops]) (hpw.snoc ⟨rfl, hd, .inl ⟨by simp [Met, hg], hsem⟩⟩) (by rw [finE_snoc]; rfl)
theorem PC.semM {h0 : Nat} {m0 : Mo} (hsem : OpSem P w0.heap.size o e (dropM hs M0) s (some (h0, m0))) {d : Nat} (hg : o.guard = none) (hd : o.dst = some d)
    (h : PC P N w0 O0 id ops Q hs e0 M0 (ps ++ [⟨d, s, some (h0, m0), none, true⟩]) ((d, s) :: e) rest) : PC P N w0 O0 id ops Q hs e0 M0 ps e (o :: rest) := by
  intro pre hops hpw he
  subst he
  exact h (pre ++ [o]) (by simp [hops]) (hpw.snoc ⟨rfl, hd, .inl ⟨by simp [Met, hg], hsem⟩⟩) (by rw [finE_snoc]; rfl)
theorem PC.gT {j d d' : Nat} {b c : Bool} {oj : Oper} (hsem : OpSem P w0.heap.size o e (dropM hs M0) s none) (hg : o.guard = some (j, b)) (hj : ops[j]? = some oj) (hdj : oj.dst = some d') (hb : look e d' = some (.d (.v (.bool c)))) (hc : c = b) (hd : o.dst = some d)
    (h : PC P N w0 O0 id ops Q hs e0 M0 (ps ++ [⟨d, s, none, none, true⟩]) ((d, s) :: e) rest) : PC P N w0 O0 id ops Q hs e0 M0 ps e (o :: rest) := by
  intro pre hops hpw he
  subst he
  exact h (pre ++ [o]) (by simp [hops]) (hpw.snoc ⟨rfl, hd, .inl ⟨by simp only [Met, hg]; exact ⟨oj, d', _, hj, hdj, hb, by simp [isB, hc]⟩, hsem⟩⟩) (by rw [finE_snoc]; rfl)
theorem PC.guardF {j d d' : Nat} {b : Bool} {v : Value} {oj : Oper} (hg : o.guard = some (j, b)) (hj : ops[j]? = some oj) (hdj : oj.dst = some d') (hb : look e d' = some (.d (.v v))) (hv : isB b v = false) (hd : o.dst = some d)
    (h : PC P N w0 O0 id ops Q hs e0 M0 (ps ++ [⟨d, .d (.v undef), none, none, true⟩]) ((d, .d (.v undef)) :: e) rest) : PC P N w0 O0 id ops Q hs e0 M0 ps e (o :: rest) := by
  intro pre hops hpw he
  subst he
  exact h (pre ++ [o]) (by simp [hops]) (hpw.snoc ⟨rfl, hd, .inr ⟨by simp only [Met, hg]; exact ⟨oj, d', _, hj, hdj, hb, hv.symm⟩, rfl, rfl⟩⟩) (by rw [finE_snoc]; rfl)
theorem PC.gF {j d d' : Nat} {b c : Bool} {oj : Oper} (hg : o.guard = some (j, b)) (hj : ops[j]? = some oj) (hdj : oj.dst = some d') (hb : look e d' = some (.d (.v (.bool c)))) (hc : c = !b) (hd : o.dst = some d)
    (h : PC P N w0 O0 id ops Q hs e0 M0 (ps ++ [⟨d, .d (.v undef), none, none, true⟩]) ((d, .d (.v undef)) :: e) rest) : PC P N w0 O0 id ops Q hs e0 M0 ps e (o :: rest) :=
  PC.guardF hg hj hdj hb (by subst hc; cases b <;> rfl) hd h
theorem PC.gU {j d d' : Nat} {b : Bool} {oj : Oper} (hg : o.guard = some (j, b)) (hj : ops[j]? = some oj) (hdj : oj.dst = some d') (hb : look e d' = some (.d (.v undef))) (hd : o.dst = some d)
    (h : PC P N w0 O0 id ops Q hs e0 M0 (ps ++ [⟨d, .d (.v undef), none, none, true⟩]) ((d, .d (.v undef)) :: e) rest) : PC P N w0 O0 id ops Q hs e0 M0 ps e (o :: rest) :=
  PC.guardF hg hj hdj hb rfl hd h
theorem PC.split {n : Nat} {b : Bool} (hn : look e n = some (.d (.v (.bool b)))) (ht : b = true → PC P N w0 O0 id ops Q hs e0 M0 ps e rest) (hf : b = false → PC P N w0 O0 id ops Q hs e0 M0 ps e rest) : PC P N w0 O0 id ops Q hs e0 M0 ps e rest := by
  cases b
  · exact hf rfl
  · exact ht rfl
/-- A store into a variable of the call's own, in the open part. -/
theorem PC.storeb {t : TypeId} {x y : Operand} {h k : Nat} {cs ss : List S} {g : Bool} (i : Nat) (ho : o.op = .store t x y) (hg : o.guard = none) (hd : o.dst = none) (hx : opS e x = some (.r h k)) (hM : look M0 h = some (.box cs)) (hy : opS e y = some s) (hs' : s.cells = some ss)
    (ht : vsz P t = some (g, ss.length)) (hk : k + ss.length ≤ cs.length)
    (hn : PC P N w0 O0 id ops Q hs e0 M0 (ps ++ [⟨i, .u, none, some (h, .box cs, .box (cs.take k ++ ss ++ cs.drop (k + ss.length))), false⟩]) e rest) : PC P N w0 O0 id ops Q hs e0 M0 ps e (o :: rest) := by
  intro pre hops hpw he
  subst he
  refine hn (pre ++ [o]) (by simp [hops]) (hpw.snoc ⟨hd, hg, rfl, hM, OpSt.storeb ho hx hy hs' ht hk⟩) (by rw [finE_snoc]; rfl)
/-- The open part is through. -/
theorem PC.done (hm : P.follows .mixedOrders = true) (hok : parOk ops ps.length = true) (hh : handOk e0 M0 ps = true) (hso : stOk hs ps = true) (hN : ps.all (fun p => !p.ds || decide (p.d < N)) = true)
    (ht : TrOps P N w0 O0 ops Q e (finM M0 ps) rest) : PC P N w0 O0 id ops Q hs e0 M0 ps e rest := by
  intro pre hops hpw he
  subst he
  have hlen : pre.length = ps.length := hpw.get.1
  have hk : ps.length ≤ ops.size := by
    have : ops.size = (pre ++ rest).length := by rw [← hops]; simp
    rw [this, ← hlen]; simp
  refine Tr.par (k := ps.length) (ps := ps) hm ?_ hk hok hh hso hN ?_
  · rw [hops, ← hlen, List.take_left]; exact hpw
  · rw [hops, ← hlen, List.drop_left]; exact ht
theorem PC.done0 (hm : P.follows .mixedOrders = true) (hok : parOk ops ps.length = true) (hh : handOk e0 M0 ps = true) (hso : stOk hs ps = true) (hN : ps.all (fun p => !p.ds || decide (p.d < N)) = true) (hM : finM M0 ps = M0)
    (ht : TrOps P N w0 O0 ops Q e M0 rest) : PC P N w0 O0 id ops Q hs e0 M0 ps e rest := PC.done hm hok hh hso hN (by rw [hM]; exact ht)
theorem PC.done1 (h : Nat) (m : Mo) (hm : P.follows .mixedOrders = true) (hok : parOk ops ps.length = true) (hh : handOk e0 M0 ps = true) (hso : stOk hs ps = true) (hN : ps.all (fun p => !p.ds || decide (p.d < N)) = true) (hM : finM M0 ps = (h, m) :: M0)
    (ht : TrOps P N w0 O0 ops Q e ((h, m) :: M0) rest) : PC P N w0 O0 id ops Q hs e0 M0 ps e rest := PC.done hm hok hh hso hN (by rw [hM]; exact ht)
end
end Go.Eng

set_option linter.unusedSimpArgs false
set_option linter.unnecessarySimpa false
set_option linter.unusedVariables false
namespace Go.Eng
open Go.RowKit (Below)

/-- A slice in memory from block B on, which nobody else knows. Its cells are plain. -/
def OwnVal (B : Nat) (w : World) (x : Value) (k T : Nat) (rows : List (List D)) : Prop :=
  (x = .slice none 0 0 ∧ rows = []) ∨ ∃ (b cap : Nat) (xs : Array Value), x = .slice (some ⟨b, 0, none⟩) rows.length cap ∧ B ≤ b ∧
    w.heap[b]? = some (.cells xs T (0, 0)) ∧ rows.length ≤ cap ∧ cap ≤ maxLen ∧ xs.size = cap * k ∧ (∀ r, r ∈ rows → r.length = k) ∧
    ∀ (i : Nat) (r : List D) (j : Nat) (d : D), rows[i]? = some r → r[j]? = some d → ∃ x, xs[i * k + j]? = some x ∧ d = .v x ∧ x.oneCell' = true

/-- What a function with a slice of its own as its result promises. -/
structure DoesO (P : Program) (f : Nat) (args : List S) (k T : Nat) (rows : List (List D)) : Prop where
  can : ∀ xs w, (callFunc f xs).run P w = .ok (.enter f xs) w
  run : ∀ (O : Nat → Nat) (w : World) (xs : List Value), xs.length = args.length → (∀ (i : Nat) (x : Value) (s : S), xs[i]? = some x → args[i]? = some s → RepS O zH w x s) →
    Calls P f xs.toArray w fun en w' => ∃ x, en = .returned x ∧ Below w.heap.size w w' ∧ OwnVal w.heap.size w' x k T rows

def RetO (w0 : World) (k T : Nat) (rows : List (List D)) : Ending → World → Prop :=
  fun en w' => ∃ x, en = .returned x ∧ Below w0.heap.size w0 w' ∧ OwnVal w0.heap.size w' x k T rows

section
variable {P : Program} {N : Nat} {w0 : World} {O0 : Nat → Nat} {ops : Array Oper} {Q : Post} {e : Env} {M : Mem} {rest : List Oper} {o : Oper} {s : S} {B : Nat}

theorem DoesO.of_body {f : Nat} {args : List S} {k T : Nat} {rows : List (List D)} {fn : Func} {c : Code} (hf : P.funcs[f]? = some fn) (hb : fn.body = some c) (hN : fn.ntmps = N) (hlen : args.length ≤ N)
    (can : ∀ xs w, (callFunc f xs).run P w = .ok (.enter f xs) w) (h : ∀ (w0 : World) (O0 : Nat → Nat), Tr P N w0 O0 (entry 0 args) [] c (bodyPost P fn (RetO w0 k T rows))) : DoesO P f args k T rows := by
  refine ⟨can, fun O w xs hl hx => calls_of_wp hf hb (h w O O zH _ w ⟨rfl, ?_, .refl _ _, fun _ _ => rfl, fun n s hs => ?_, fun n s hs => by cases hs⟩)⟩
  · simp; omega
  · obtain ⟨_, hn⟩ := look_entry args 0 n s hs
    simp only [Nat.sub_zero] at hn
    have hlt : n < xs.length := by rw [hl]; exact (List.getElem?_eq_some_iff.1 hn).1
    refine ⟨xs[n], ?_, hx n _ s (List.getElem?_eq_getElem hlt) hn⟩
    rw [Array.getElem?_append_left (by simpa using hlt)]
    simp [hlt]

theorem retO_run {fn : Func} {t : Nat} {x : Value} {a : Act} {w : World} (hres : fn.results.toList = [.tmp t]) (hx : a.tmps[t]? = some x) : (results fn a.tmps).run P w = .ok x w := by
  have : (rv a.tmps (.tmp t)).run P w = .ok x w := by simp [rv, Array.getD_eq_getD_getElem?, hx]
  rw [results_rv, Array.mapM_eq_mapM_toList, hres]
  simp [this]

theorem At.retO {fn : Func} {t h k T : Nat} {rows rows' : List (List D)} (hres : fn.results.toList = [.tmp t]) (ho : look e t = some (.o h)) (hM : look M h = some (.own k T rows)) (hf : rows.all (fun r => r.all fun d => match d with | .v _ => true | _ => false) = true) (hr : rows = rows') :
    At N w0 O0 e M .ret (bodyPost P fn (RetO w0 k T rows')) := by
  subst hr
  intro O H a w hst
  obtain ⟨x, hx, hr⟩ := hst.slots _ _ ho
  refine ⟨hst.df, _, retO_run hres hx, _, rfl, hst.bl, ?_⟩
  cases hr with
  | o h h1 =>
    rcases hst.mem h _ hM with ⟨h0, rfl⟩ | ⟨b, cap, xs, hH, hB, hO, hb, hlc, hcm, hsz, hw, hc⟩
    · exact .inl ⟨h0, rfl⟩
    · refine .inr ⟨b, cap, xs, hH, hB, hb, hlc, hcm, hsz, hw, fun i r j d hi hj => ?_⟩
      obtain ⟨x, hx, hr, h1⟩ := hc i r j d hi hj
      have := List.all_eq_true.1 (List.all_eq_true.1 hf r (List.mem_of_getElem? hi)) d (List.mem_of_getElem? hj)
      cases hr with
      | v _ => exact ⟨x, hx, rfl, h1⟩
      | _ => simp at this
theorem At.retONil {fn : Func} {t k T : Nat} {rows : List (List D)} (hres : fn.results.toList = [.tmp t]) (ho : look e t = some (.d (.v (.slice none 0 0)))) (hr : rows = []) :
    At N w0 O0 e M .ret (bodyPost P fn (RetO w0 k T rows)) := by
  intro O H a w hst
  obtain ⟨x, hx, hr'⟩ := hst.slots _ _ ho
  refine ⟨hst.df, _, retO_run hres hx, _, rfl, hst.bl, .inl ⟨?_, hr⟩⟩
  cases hr' with
  | d _ _ q => cases q with
    | v _ => rfl

/-- A call that brings a slice of the callee's own: it is the caller's own now. -/
theorem OpSem.callO {g : Operand} {as_ : Array Operand} {ts : Array TypeId} {fn : Nat} {fs cs l args args' : List S} {k T : Nat} {rows : List (List D)} (h : Nat)
    (hspec : DoesO P fn args k T rows)
    (ho : o.op = .call { callee := .value g, args := as_, argTypes := ts }) (hg : opS e g = some (.f fn fs cs)) (ha : opsS e as_.toList = some l)
    (hv : (fs ++ l ++ cs).mapM (S.view M 9) = some args') (hle : Les args' args) : OpSem P B o e M (.o h) (some (h, .own k T rows)) := by
  intro O H a w hB hs hm K hK
  have hg' := hs g (by simp [ho, Op.operands, Call.operands]) _ hg
  generalize hgv : a.eval g = gv at hg'
  cases hg' with
  | f _ xs ys _ _ hl hl' hx hy =>
    obtain ⟨a1, a2⟩ := opsS_rep (O := O) (H := H) (w := w) (a := a) as_.toList l ha (fun x hx s hs' => hs x (by simp only [ho, Op.operands, Call.operands]; simpa using .inr (by simpa using hx)) s hs')
    have hrun := run_call (o := o) hspec.can a w g as_ ts ho hgv rfl
    have hrep := rep_app (by rw [List.length_append, List.length_append, hl, List.length_map, a1]) (rep_app hl hx a2) hy
    obtain ⟨m1, m2⟩ := mapM_some hv
    obtain ⟨q1, q2⟩ := hle.get
    have hlen : (xs ++ as_.toList.map a.eval ++ ys).length = (fs ++ l ++ cs).length := by simp only [List.length_append, List.length_map, hl, hl', a1]
    unfold Oper.wp
    rw [hrun]
    refine (hspec.run zO w _ (by rw [hlen, ← m1, q1]) (fun i x s hi hs' => ?_)).mono ?_
    · have hlt' : i < args'.length := by rw [q1]; exact (List.getElem?_eq_some_iff.1 hs').1
      have hlt : i < (fs ++ l ++ cs).length := by rw [← m1]; exact hlt'
      exact q2 i _ _ (List.getElem?_eq_getElem hlt') hs' _ _ _ _ (RepS.view hm 9 (hrep i x _ hi (List.getElem?_eq_getElem hlt)) (m2 i _ _ (List.getElem?_eq_getElem hlt) (List.getElem?_eq_getElem hlt')))
    · rintro en w' ⟨x, rfl, hb, hr⟩
      obtain ⟨H', hH'⟩ : ∃ H' : Nat → Value, H' = fun m => if m = h then x else H m := ⟨_, rfl⟩
      have hH : H' h = x := by rw [hH']; simp
      have hne : ∀ m, m ≠ h → H' m = H m := fun m hm => by rw [hH']; simp [hm]
      rcases hr with ⟨hx0, rfl⟩ | ⟨b, cap, xs', hx0, hBb, hbl, hlc, hcm, hsz, hw, hc⟩
      · refine hK (ext O w.heap.size) H' w' x ⟨(Keep.ext hb (H := H)).lab, (Keep.ext hb (H := H)).hp, fun m hm => hne m (fun e => hm (by simp [e]))⟩ hb ?_ (fun h' m he => ?_)
        · have := RepS.o (O := ext O w.heap.size) (w := w') (H := H') h (by rw [hH, hx0]; rfl)
          rwa [hH] at this
        · simp only [Option.some.injEq, Prod.mk.injEq] at he
          obtain ⟨rfl, rfl⟩ := he
          exact .inl ⟨by rw [hH, hx0], rfl⟩
      · refine hK (fun n => if n = b then h + 1 else ext O w.heap.size n) H' w' x ⟨fun n hn => ?_, (Keep.ext hb (H := H)).hp, fun m hm => hne m (fun e => hm (by simp [e]))⟩ hb ?_ (fun h' m he => ?_)
        · rw [if_neg (by omega)]; exact (Keep.ext hb (H := H) (O := O)).lab n hn
        · have := RepS.o (O := fun n => if n = b then h + 1 else ext O w.heap.size n) (w := w') (H := H') h (by rw [hH, hx0]; rfl)
          rwa [hH] at this
        · simp only [Option.some.injEq, Prod.mk.injEq] at he
          obtain ⟨rfl, rfl⟩ := he
          refine .inr ⟨b, cap, xs', by rw [hH, hx0], by omega, by simp, hbl, hlc, hcm, hsz, hw, fun i r j d hi hj => ?_⟩
          obtain ⟨y, hy, rfl, h1⟩ := hc i r j d hi hj
          exact ⟨y, hy, .v y, h1⟩

/-- An empty literal: a slice of the call's own. -/
theorem OpSem.buildO {t k : Nat} (h : Nat) (ho : o.op = .buildSlice t 0 #[]) (hk : esz P t = some k) (hk0 : 0 < k) : OpSem P B o e M (.o h) (some (h, .own k (P.elem t) [])) := by
  intro O H a w hB hs hm K hK
  have hu := (esz_spec hk).1
  have hrun : (execOp a.eval o).run P w = .ok (.value (.slice (some ⟨w.heap.size, 0, none⟩) 0 0)) (w.alloc (.cells #[] (P.elem t))) := by
    simp [execOp, ho, Instr.buildSlice, run_underlying hu, run_sizeElem hk, newRow, Array.range_zero', Instr.fill]
  have hkeep := Keep.alloc (O := O) (H := H) (w := w) (.cells #[] (P.elem t)) h (.slice (some ⟨w.heap.size, 0, none⟩) 0 0)
  unfold Oper.wp
  rw [hrun]
  obtain ⟨H', hH'⟩ : ∃ H' : Nat → Value, H' = fun m => if m = h then (.slice (some ⟨w.heap.size, 0, none⟩) 0 0 : Value) else H m := ⟨_, rfl⟩
  have hH : H' h = .slice (some ⟨w.heap.size, 0, none⟩) 0 0 := by rw [hH']; simp
  rw [← hH'] at hkeep
  have ho' := RepS.o (O := fun b => if b = w.heap.size then h + 1 else O b) (w := w.alloc (.cells #[] (P.elem t))) (H := H') h (by rw [hH]; rfl)
  rw [hH] at ho'
  refine hK _ _ _ _ hkeep ((Below.refl _ _).alloc (Nat.le_refl _) _) ho' (fun h' m he => ?_)
  simp only [Option.some.injEq, Prod.mk.injEq] at he
  obtain ⟨rfl, rfl⟩ := he
  exact .inr ⟨w.heap.size, 0, #[], by rw [hH]; rfl, hB, by simp, heap_new w _, by simp, by simp [maxLen], by simp, fun r hr => by simp at hr, fun i r j d hi hj => by simp at hi⟩

/-- A slice and nil: the answer is open where the slice is empty. -/
theorem TrOps.eqNil {t u k d : Nat} {x : Operand} {rows : List (List D)} (ho : o.op = .binOp .eql t x (.const (.slice none 0 0)) u) (hx : opS e x = some (.d (.s k rows))) (hk : esz P t = some k) (hg : o.guard = none) (hd : o.dst = some d) (hdN : d < N)
    (h : ∀ b : Bool, (b = true → rows = []) → TrOps P N w0 O0 ops Q ((d, .d (.v (.bool b))) :: e) M rest) : TrOps P N w0 O0 ops Q e M (o :: rest) := by
  intro O H a w hst
  have hx' := hst.slotsAt o.op.operands x (by simp [ho, Op.operands]) _ hx
  generalize hv : a.eval x = v at hx'
  obtain ⟨ad, l, c, rfl, hnil⟩ : ∃ ad l c, v = .slice ad l c ∧ (ad.isNone = true → rows = []) := by
    cases hx' with
    | d _ _ q => cases q with
      | e a c _ _ => exact ⟨_, _, _, rfl, fun _ => rfl⟩
      | s b off c _ _ y => exact ⟨_, _, _, rfl, fun h => by simp at h⟩
  refine wpList_plain hg fun K hK => ?_
  have hu := (esz_spec hk).1
  have hrun : (execOp a.eval o).run P w = .ok (.value (.bool ad.isNone)) w := by
    have hgd : eqGuard .eql t x (.const (.slice none 0 0)) (.slice ad l c) (.slice none 0 0) = pure () := rfl
    have ey : a.eval (.const (.slice none 0 0)) = .slice none 0 0 := rfl
    simp only [execOp, ho, hv, ey, hgd, Sem.run_bind, Sem.run_pure, Result.andThen_ok]
    simp only [binOp, Op.equal, Op.maxDepth, Sem.run_bind, run_equalIn_slice_nil w 9999 t (P.elem t) ad l c hu, Result.andThen_ok, Sem.run_pure]
  unfold Oper.wp
  rw [hrun]
  refine hK _ _ (h ad.isNone hnil O H _ _ ⟨?_, ?_, hst.bl, hst.lab, ?_, hst.mem⟩)
  · rw [hd]; exact hst.df
  · rw [hd]; simp [Act.put, hst.sz]
  · rw [hd]
    exact put_slots hst.sz hdN (.d _ _ (.v _)) fun n s hs => hst.slots n s hs
end
def fo1 (P : Program) (t k : Nat) : Option Nat := match P.underlying t with
  | some (.struct fs) => match fs[k]? with
    | some f => if vsz P f.type = some (false, 1) then some f.offset else none
    | none => none
  | _ => none
/-- A field of one cell, out of a struct value. -/
theorem OpSem.field1 {P : Program} {B : Nat} {o : Oper} {e : Env} {M : Mem} {s : S} {t k n : Nat} {x : Operand} {ss : List S} (ho : o.op = .field t x k) (hx : opS e x = some (.g ss)) (ht : fo1 P t k = some n) (hs : ss[n]? = some s) : OpSem P B o e M s none :=
  .value fun O H a w hsl _ => by
    have hr := hsl x (by simp [ho, Op.operands]) _ hx
    generalize hv : a.eval x = v at hr
    cases hr with
    | g xs ss hl h1 h =>
      have hlt : n < xs.length := by rw [hl]; exact (List.getElem?_eq_some_iff.1 hs).1
      refine ⟨xs[n], ?_, h n _ s (List.getElem?_eq_getElem hlt) hs⟩
      unfold fo1 at ht
      split at ht
      · rename_i fs hu
        split at ht
        · rename_i f hf
          split at ht
          · rename_i hvz
            simp only [Option.some.injEq] at ht
            subst ht
            have hp : (part f.type xs.toArray f.offset).run P w = .ok xs[f.offset] w := by
              simp [part, Sem.run_bind, (run_isAgg hvz w).1, hlt]
            simp [execOp, ho, hv, Instr.field, run_underlying hu, hf, asAgg, Sem.run_bind, hp]
          · cases ht
        · cases ht
      · cases ht
end Go.Eng

set_option linter.unusedSimpArgs false
set_option linter.unnecessarySimpa false
set_option linter.unusedVariables false
namespace Go.Eng
open Go.RowKit (Below)

/-- A list of cells holds these rows. -/
def RowsIn (O : Nat → Nat) (w : World) (k : Nat) (vals : List Value) (rows : List (List D)) : Prop :=
  vals.length = rows.length * k ∧ (∀ r, r ∈ rows → r.length = k) ∧ ∀ (i : Nat) (r : List D) (j : Nat) (d : D), rows[i]? = some r → r[j]? = some d → ∃ x, vals[i * k + j]? = some x ∧ RepD O w x d

theorem RowsIn.app {O : Nat → Nat} {w : World} {k : Nat} {v1 v2 : List Value} {r1 r2 : List (List D)} (h1 : RowsIn O w k v1 r1) (h2 : RowsIn O w k v2 r2) : RowsIn O w k (v1 ++ v2) (r1 ++ r2) := by
  refine ⟨by simp [h1.1, h2.1, Nat.add_mul], fun r hr => (List.mem_append.1 hr).elim (h1.2.1 r) (h2.2.1 r), fun i r j d hi hj => ?_⟩
  by_cases hlo : i < r1.length
  · rw [List.getElem?_append_left hlo] at hi
    obtain ⟨x, hx, hr⟩ := h1.2.2 i r j d hi hj
    exact ⟨x, by rw [List.getElem?_append_left (List.getElem?_eq_some_iff.1 hx).1]; exact hx, hr⟩
  · rw [List.getElem?_append_right (by omega)] at hi
    obtain ⟨x, hx, hr⟩ := h2.2.2 _ r j d hi hj
    have hge : r1.length * k ≤ i * k := Nat.mul_le_mul_right k (by omega)
    refine ⟨x, ?_, hr⟩
    rw [List.getElem?_append_right (by rw [h1.1]; omega), h1.1]
    have : i * k + j - r1.length * k = (i - r1.length) * k + j := by rw [Nat.sub_mul]; omega
    rw [this]; exact hx

theorem RepD.cellsL {O : Nat → Nat} {w : World} {a : Addr} {n c k : Nat} {rows : List (List D)} (h : RepD O w (.slice (some a) n c) (.s k rows)) (hk0 : 0 < k) :
    n = rows.length ∧ ∃ vals : List Value, RowsIn O w k vals rows ∧ ∀ j v, vals[j]? = some v → w.cell? (a.add j) = some v := by
  cases h with
  | e a c k hm => exact ⟨rfl, [], ⟨by simp, fun r hr => by simp at hr, fun i r j d hi => by simp at hi⟩, fun j v hj => by simp at hj⟩
  | s b off c k rows y hc hm hw hO hy hr =>
    refine ⟨rfl, (List.range (rows.length * k)).map y, ⟨by simp, hw, fun i r j d hi hj => ?_⟩, fun j v hj => ?_⟩
    · have hrl : r.length = k := hw r (List.mem_of_getElem? hi)
      have hjk : j < k := by rw [← hrl]; exact (List.getElem?_eq_some_iff.1 hj).1
      have hil : i < rows.length := (List.getElem?_eq_some_iff.1 hi).1
      have hlt : i * k + j < rows.length * k := by
        have : (i + 1) * k ≤ rows.length * k := Nat.mul_le_mul_right k hil
        rw [Nat.succ_mul] at this; omega
      exact ⟨y (i * k + j), by simp [hlt], hr i r j d hi hj⟩
    · simp only [List.getElem?_map, Option.map_eq_some_iff] at hj
      obtain ⟨j', hj', rfl⟩ := hj
      have hlt : j < rows.length * k := by have := (List.getElem?_eq_some_iff.1 hj').1; simpa using this
      have : j' = j := by simpa [hlt] using hj'.symm
      subst this
      have hq : j' / k < rows.length := Nat.div_lt_of_lt_mul (by rw [Nat.mul_comm]; exact hlt)
      have hr' := List.getElem?_eq_getElem hq
      have hrl : (rows[j' / k]).length = k := hw _ (List.getElem_mem hq)
      have hd := List.getElem?_eq_getElem (l := rows[j' / k]) (i := j' % k) (by rw [hrl]; exact Nat.mod_lt _ hk0)
      have := hy _ _ _ _ hr' hd
      rw [Addr.add_lit]
      have e1 : j' / k * k + j' % k = j' := by rw [Nat.mul_comm]; exact Nat.div_add_mod j' k
      rw [e1] at this
      exact this

theorem RepD.noneNil {O : Nat → Nat} {w : World} {x : Value} {n c k : Nat} {rows : List (List D)} (h : RepD O w x (.s k rows)) (hx : x = .slice none n c) : rows = [] := by
  cases h with
  | e => rfl
  | s => cases hx
section
variable {P : Program} {B : Nat} {o : Oper} {e : Env} {M : Mem}
/-- append to a clipped slice: it never has room. -/
theorem OpSem.appendC {x y : Operand} {t k T by_ : Nat} {rows rows2 : List (List D)} {zs : List Value} (h : Nat) (ho : o.op = .call { callee := .builtin .append, args := #[x, y], argTypes := #[t, t] })
    (hx : opS e x = some (.c k rows)) (hy : opS e y = some (.d (.s k rows2))) (hk : esz P t = some k) (hT : P.elem t = T) (hz : zcells P T = some zs) (hzk : zs.length = k) (hk0 : 0 < k) (hby : P.bytesOf T = by_)
    (hone : ∀ r, r ∈ rows ++ rows2 → r.all D.one = true) (hne : 0 < rows2.length) (hlen : (rows.length + rows2.length) ≤ maxLen) (hroom : (rows.length + rows2.length) * by_ ≤ 140737488355328) :
    OpSem P B o e M (.o h) (some (h, .own k T (rows ++ rows2))) := by
  intro O H a w hB hs hm K hK
  have hr := hs x (by simp [ho, Op.operands, Call.operands]) _ hx
  have hv := hs y (by simp [ho, Op.operands, Call.operands]) _ hy
  generalize hxa : a.eval x = xa at hr
  generalize hya : a.eval y = ya at hv
  obtain ⟨hu, i, hi, hik⟩ := esz_spec hk
  rw [hT] at hu hi
  have hbi : i.bytes = by_ := by simpa [Program.bytesOf, hi] using hby
  obtain ⟨z, hiz, hzc⟩ : ∃ z, i.zero = some z ∧ z.cells = zs.toArray := by
    unfold zcells at hz
    cases hq : i.zero with
    | none => simp [hi, hq] at hz
    | some z => simp [hi, hq] at hz; exact ⟨z, rfl, by rw [← hz]⟩
  have hzz : z.cells.size = k := by rw [hzc]; simpa using hzk
  obtain ⟨a2, c2, rfl, hv2⟩ : ∃ a2 c2, ya = .slice (some a2) rows2.length c2 ∧ RepD O w (.slice (some a2) rows2.length c2) (.s k rows2) := by
    cases hv with
    | d _ _ q => cases q with
      | e => simp at hne
      | s b off c _ _ yv h1 h2 h3 h4 h5 h6 => exact ⟨⟨b, off, none⟩, c, rfl, .s b off c k rows2 yv h1 h2 h3 h4 h5 h6⟩
  obtain ⟨_, news, hn1, hn2⟩ := hv2.cellsL hk0
  -- the rest of the way, from the run on
  have finish : ∀ (x' : Value) (cap : Nat) (vals : List Value), RowsIn O w k vals (rows ++ rows2) → x' = .slice (some ⟨w.heap.size, 0, none⟩) (rows.length + rows2.length) cap → rows.length + rows2.length ≤ cap → cap ≤ maxLen →
      (execOp a.eval o).run P w = .ok (.value x') (w.drew.alloc (.cells (vals.toArray ++ Builtin.zeroCells z.cells (cap - (rows.length + rows2.length))) T)) → o.wp P a w K (fun _ _ _ => False) := by
    intro x' cap vals hvals hx' hc1 hc2 hrun
    unfold Oper.wp
    rw [hrun]
    obtain ⟨H', hH'⟩ : ∃ H' : Nat → Value, H' = fun m => if m = h then x' else H m := ⟨_, rfl⟩
    have hH : H' h = x' := by rw [hH']; simp
    have hkp : Keeps O w (fun b' => if b' = w.heap.size then h + 1 else O b') (w.drew.alloc (.cells (vals.toArray ++ Builtin.zeroCells z.cells (cap - (rows.length + rows2.length))) T)) :=
      fun b' hb' hO => ⟨by simp [Nat.ne_of_lt hb', hO], heap_alloc_old w.drew _ hb'⟩
    refine hK (fun b' => if b' = w.heap.size then h + 1 else O b') H' _ x' ⟨fun b' hb' => by simp [Nat.ne_of_lt hb'], fun b' hb' _ => heap_alloc_old w.drew _ hb', fun n hn => by rw [hH']; simp; intro e; subst e; exact (hn (by simp)).elim⟩
      ⟨rfl, rfl, rfl, by simp, fun b' hb' => heap_alloc_old w.drew _ (by simp; omega)⟩ ?_ (fun h' m he => ?_)
    · have := RepS.o (O := fun b' => if b' = w.heap.size then h + 1 else O b') (w := w.drew.alloc (.cells (vals.toArray ++ Builtin.zeroCells z.cells (cap - (rows.length + rows2.length))) T)) (H := H') h (by rw [hH, hx']; rfl)
      rwa [hH] at this
    · simp only [Option.some.injEq, Prod.mk.injEq] at he
      obtain ⟨rfl, rfl⟩ := he
      refine .inr ⟨w.heap.size, cap, _, by rw [hH, hx']; simp, hB, by simp, heap_alloc_new w.drew _, by simpa using hc1, hc2, ?_, hvals.2.1, fun i' r j d hi' hj => ?_⟩
      · simp only [Array.size_append, List.size_toArray, size_zeroCells, hzz, hvals.1, List.length_append, ← Nat.add_mul]
        congr 1; omega
      · obtain ⟨v, hv, hrep⟩ := hvals.2.2 i' r j d hi' hj
        refine ⟨v, ?_, hrep.mono hkp, hrep.one' ?_⟩
        · have hlt := (List.getElem?_eq_some_iff.1 hv).1
          rw [Array.getElem?_append_left (by simpa using hlt)]; simpa using hv
        · have := hone r (List.mem_of_getElem? hi')
          rw [List.all_eq_true] at this
          exact this d (List.mem_of_getElem? hj)
  have hnl : news.length = rows2.length * i.size := by rw [hn1.1, hik]
  cases hr with
  | c ad _ _ hrd =>
    cases ad with
    | none =>
      have hr0 : rows = [] := hrd.noneNil rfl
      subst hr0
      simp only [List.length_nil, Nat.zero_add] at hlen hroom
      have hrun := run_append_nil (P := P) w t o.type T i z hu hi hiz a2 rows2.length c2 news hnl hn2 hne (by simp only [maxLen] at hlen; omega) (by rw [hbi]; omega)
      refine finish (.slice (some ⟨w.heap.size, 0, none⟩) rows2.length (grownCap w rows2.length 0 T)) (grownCap w rows2.length 0 T) news (by simpa using hn1) (by simp) (by simpa using grownCap_ge w rows2.length 0 T) (grownCap_le_maxLen w rows2.length 0 T hlen) ?_
      simp [execOp, ho, resolve, invoke, builtin, hxa, hya, hrun]
    | some a1 =>
      obtain ⟨_, olds, ho1, ho2⟩ := hrd.cellsL hk0
      have hrun := run_append_grow (P := P) w t o.type T i z hu hi hiz a1 rows.length rows.length olds (by rw [ho1.1, hik]) ho2 a2 rows2.length c2 news hnl hn2 (by omega) (by simp only [maxLen] at hlen; omega) (growslice_fits (by omega) (by rw [hbi]; exact hroom))
      refine finish (.slice (some ⟨w.heap.size, 0, none⟩) (rows.length + rows2.length) (grownCap w (rows.length + rows2.length) rows.length T)) (grownCap w (rows.length + rows2.length) rows.length T) (olds ++ news) (ho1.app hn1) rfl (grownCap_ge w (rows.length + rows2.length) rows.length T) (grownCap_le_maxLen w (rows.length + rows2.length) rows.length T hlen) ?_
      simp [execOp, ho, resolve, invoke, builtin, hxa, hya, hrun]
end
end Go.Eng
