/- The engine, part 12: functions that return a slice of their own; a slice and nil compared. -/
import Derived.Test.YtohlmcebphcokaaEng11
import Derived.Laws.Cover3
set_option linter.unusedSimpArgs false
set_option linter.unnecessarySimpa false
set_option linter.unusedVariables false
namespace Go.Eng
open Go.RowKit (Below)

/-- A slice in memory from block B on, which nobody else knows. Its cells are plain. -/
def OwnVal (B : Nat) (w : World) (x : Value) (k T : Nat) (rows : List (List D)) : Prop :=
  (x = .slice none 0 0 ∧ rows = []) ∨ ∃ (b cap : Nat) (xs : Array Value), x = .slice (some ⟨b, 0, none⟩) rows.length cap ∧ B ≤ b ∧
    w.heap[b]? = some (.cells xs T (0, 0)) ∧ rows.length ≤ cap ∧ cap ≤ maxLen ∧ xs.size = cap * k ∧ (∀ r, r ∈ rows → r.length = k) ∧
    ∀ (i : Nat) (r : List D) (j : Nat) (d : D), rows[i]? = some r → r[j]? = some d → ∃ x, xs[i * k + j]? = some x ∧ d = .v x ∧ x.oneCell' = true

/-- What a function with a slice of its own as its result promises. -/
structure DoesO (P : Program) (f : Nat) (args : List S) (k T : Nat) (rows : List (List D)) : Prop where
  can : ∀ xs w, (callFunc f xs).run P w = .ok (.enter f xs) w
  run : ∀ (O : Nat → Nat) (w : World) (xs : List Value), xs.length = args.length → (∀ (i : Nat) (x : Value) (s : S), xs[i]? = some x → args[i]? = some s → RepS O zH w x s) →
    Calls P f xs.toArray w fun en w' => ∃ x, en = .returned x ∧ Below w.heap.size w w' ∧ OwnVal w.heap.size w' x k T rows

def RetO (w0 : World) (k T : Nat) (rows : List (List D)) : Ending → World → Prop :=
  fun en w' => ∃ x, en = .returned x ∧ Below w0.heap.size w0 w' ∧ OwnVal w0.heap.size w' x k T rows

section
variable {P : Program} {N : Nat} {w0 : World} {O0 : Nat → Nat} {ops : Array Oper} {Q : Post} {e : Env} {M : Mem} {rest : List Oper} {o : Oper} {s : S} {B : Nat}

theorem DoesO.of_body {f : Nat} {args : List S} {k T : Nat} {rows : List (List D)} {fn : Func} {c : Code} (hf : P.funcs[f]? = some fn) (hb : fn.body = some c) (hN : fn.ntmps = N) (hlen : args.length ≤ N)
    (can : ∀ xs w, (callFunc f xs).run P w = .ok (.enter f xs) w) (h : ∀ (w0 : World) (O0 : Nat → Nat), Tr P N w0 O0 (entry 0 args) [] c (bodyPost P fn (RetO w0 k T rows))) : DoesO P f args k T rows := by
  refine ⟨can, fun O w xs hl hx => calls_of_wp hf hb (h w O O zH _ w ⟨rfl, ?_, .refl _ _, fun _ _ => rfl, fun n s hs => ?_, fun n s hs => by cases hs⟩)⟩
  · simp; omega
  · obtain ⟨_, hn⟩ := look_entry args 0 n s hs
    simp only [Nat.sub_zero] at hn
    have hlt : n < xs.length := by rw [hl]; exact (List.getElem?_eq_some_iff.1 hn).1
    refine ⟨xs[n], ?_, hx n _ s (List.getElem?_eq_getElem hlt) hn⟩
    rw [Array.getElem?_append_left (by simpa using hlt)]
    simp [hlt]

theorem retO_run {fn : Func} {t : Nat} {x : Value} {a : Act} {w : World} (hres : fn.results.toList = [.tmp t]) (hx : a.tmps[t]? = some x) : (results fn a.tmps).run P w = .ok x w := by
  have : (rv a.tmps (.tmp t)).run P w = .ok x w := by simp [rv, Array.getD_eq_getD_getElem?, hx]
  rw [results_rv, Array.mapM_eq_mapM_toList, hres]
  simp [this]

theorem At.retO {fn : Func} {t h k T : Nat} {rows rows' : List (List D)} (hres : fn.results.toList = [.tmp t]) (ho : look e t = some (.o h)) (hM : look M h = some (.own k T rows)) (hf : rows.all (fun r => r.all fun d => match d with | .v _ => true | _ => false) = true) (hr : rows = rows') :
    At N w0 O0 e M .ret (bodyPost P fn (RetO w0 k T rows')) := by
  subst hr
  intro O H a w hst
  obtain ⟨x, hx, hr⟩ := hst.slots _ _ ho
  refine ⟨hst.df, _, retO_run hres hx, _, rfl, hst.bl, ?_⟩
  cases hr with
  | o h h1 =>
    rcases hst.mem h _ hM with ⟨h0, rfl⟩ | ⟨b, cap, xs, hH, hB, hO, hb, hlc, hcm, hsz, hw, hc⟩
    · exact .inl ⟨h0, rfl⟩
    · refine .inr ⟨b, cap, xs, hH, hB, hb, hlc, hcm, hsz, hw, fun i r j d hi hj => ?_⟩
      obtain ⟨x, hx, hr, h1⟩ := hc i r j d hi hj
      have := List.all_eq_true.1 (List.all_eq_true.1 hf r (List.mem_of_getElem? hi)) d (List.mem_of_getElem? hj)
      cases hr with
      | v _ => exact ⟨x, hx, rfl, h1⟩
      | _ => simp at this
theorem At.retONil {fn : Func} {t k T : Nat} {rows : List (List D)} (hres : fn.results.toList = [.tmp t]) (ho : look e t = some (.d (.v (.slice none 0 0)))) (hr : rows = []) :
    At N w0 O0 e M .ret (bodyPost P fn (RetO w0 k T rows)) := by
  intro O H a w hst
  obtain ⟨x, hx, hr'⟩ := hst.slots _ _ ho
  refine ⟨hst.df, _, retO_run hres hx, _, rfl, hst.bl, .inl ⟨?_, hr⟩⟩
  cases hr' with
  | d _ _ q => cases q with
    | v _ => rfl

/-- A call that brings a slice of the callee's own: it is the caller's own now. -/
theorem OpSem.callO {g : Operand} {as_ : Array Operand} {ts : Array TypeId} {fn : Nat} {fs cs l args args' : List S} {k T : Nat} {rows : List (List D)} (h : Nat)
    (hspec : DoesO P fn args k T rows)
    (ho : o.op = .call { callee := .value g, args := as_, argTypes := ts }) (hg : opS e g = some (.f fn fs cs)) (ha : opsS e as_.toList = some l)
    (hv : (fs ++ l ++ cs).mapM (S.view M 9) = some args') (hle : Les args' args) : OpSem P B o e M (.o h) (some (h, .own k T rows)) := by
  intro O H a w hB hs hm K hK
  have hg' := hs g (by simp [ho, Op.operands, Call.operands]) _ hg
  generalize hgv : a.eval g = gv at hg'
  cases hg' with
  | f _ xs ys _ _ hl hl' hx hy =>
    obtain ⟨a1, a2⟩ := opsS_rep (O := O) (H := H) (w := w) (a := a) as_.toList l ha (fun x hx s hs' => hs x (by simp only [ho, Op.operands, Call.operands]; simpa using .inr (by simpa using hx)) s hs')
    have hrun := run_call (o := o) hspec.can a w g as_ ts ho hgv rfl
    have hrep := rep_app (by rw [List.length_append, List.length_append, hl, List.length_map, a1]) (rep_app hl hx a2) hy
    obtain ⟨m1, m2⟩ := mapM_some hv
    obtain ⟨q1, q2⟩ := hle.get
    have hlen : (xs ++ as_.toList.map a.eval ++ ys).length = (fs ++ l ++ cs).length := by simp only [List.length_append, List.length_map, hl, hl', a1]
    unfold Oper.wp
    rw [hrun]
    refine (hspec.run zO w _ (by rw [hlen, ← m1, q1]) (fun i x s hi hs' => ?_)).mono ?_
    · have hlt' : i < args'.length := by rw [q1]; exact (List.getElem?_eq_some_iff.1 hs').1
      have hlt : i < (fs ++ l ++ cs).length := by rw [← m1]; exact hlt'
      exact q2 i _ _ (List.getElem?_eq_getElem hlt') hs' _ _ _ _ (RepS.view hm 9 (hrep i x _ hi (List.getElem?_eq_getElem hlt)) (m2 i _ _ (List.getElem?_eq_getElem hlt) (List.getElem?_eq_getElem hlt')))
    · rintro en w' ⟨x, rfl, hb, hr⟩
      obtain ⟨H', hH'⟩ : ∃ H' : Nat → Value, H' = fun m => if m = h then x else H m := ⟨_, rfl⟩
      have hH : H' h = x := by rw [hH']; simp
      have hne : ∀ m, m ≠ h → H' m = H m := fun m hm => by rw [hH']; simp [hm]
      rcases hr with ⟨hx0, rfl⟩ | ⟨b, cap, xs', hx0, hBb, hbl, hlc, hcm, hsz, hw, hc⟩
      · refine hK (ext O w.heap.size) H' w' x ⟨(Keep.ext hb (H := H)).lab, (Keep.ext hb (H := H)).hp, fun m hm => hne m (fun e => hm (by simp [e]))⟩ hb ?_ (fun h' m he => ?_)
        · have := RepS.o (O := ext O w.heap.size) (w := w') (H := H') h (by rw [hH, hx0]; rfl)
          rwa [hH] at this
        · simp only [Option.some.injEq, Prod.mk.injEq] at he
          obtain ⟨rfl, rfl⟩ := he
          exact .inl ⟨by rw [hH, hx0], rfl⟩
      · refine hK (fun n => if n = b then h + 1 else ext O w.heap.size n) H' w' x ⟨fun n hn => ?_, (Keep.ext hb (H := H)).hp, fun m hm => hne m (fun e => hm (by simp [e]))⟩ hb ?_ (fun h' m he => ?_)
        · rw [if_neg (by omega)]; exact (Keep.ext hb (H := H) (O := O)).lab n hn
        · have := RepS.o (O := fun n => if n = b then h + 1 else ext O w.heap.size n) (w := w') (H := H') h (by rw [hH, hx0]; rfl)
          rwa [hH] at this
        · simp only [Option.some.injEq, Prod.mk.injEq] at he
          obtain ⟨rfl, rfl⟩ := he
          refine .inr ⟨b, cap, xs', by rw [hH, hx0], by omega, by simp, hbl, hlc, hcm, hsz, hw, fun i r j d hi hj => ?_⟩
          obtain ⟨y, hy, rfl, h1⟩ := hc i r j d hi hj
          exact ⟨y, hy, .v y, h1⟩

/-- An empty literal: a slice of the call's own. -/
theorem OpSem.buildO {t k : Nat} (h : Nat) (ho : o.op = .buildSlice t 0 #[]) (hk : esz P t = some k) (hk0 : 0 < k) : OpSem P B o e M (.o h) (some (h, .own k (P.elem t) [])) := by
  intro O H a w hB hs hm K hK
  have hu := (esz_spec hk).1
  have hrun : (execOp a.eval o).run P w = .ok (.value (.slice (some ⟨w.heap.size, 0, none⟩) 0 0)) (w.alloc (.cells #[] (P.elem t))) := by
    simp [execOp, ho, Instr.buildSlice, run_underlying hu, run_sizeElem hk, newRow, Array.range_zero', Instr.fill]
  have hkeep := Keep.alloc (O := O) (H := H) (w := w) (.cells #[] (P.elem t)) h (.slice (some ⟨w.heap.size, 0, none⟩) 0 0)
  unfold Oper.wp
  rw [hrun]
  obtain ⟨H', hH'⟩ : ∃ H' : Nat → Value, H' = fun m => if m = h then (.slice (some ⟨w.heap.size, 0, none⟩) 0 0 : Value) else H m := ⟨_, rfl⟩
  have hH : H' h = .slice (some ⟨w.heap.size, 0, none⟩) 0 0 := by rw [hH']; simp
  rw [← hH'] at hkeep
  have ho' := RepS.o (O := fun b => if b = w.heap.size then h + 1 else O b) (w := w.alloc (.cells #[] (P.elem t))) (H := H') h (by rw [hH]; rfl)
  rw [hH] at ho'
  refine hK _ _ _ _ hkeep ((Below.refl _ _).alloc (Nat.le_refl _) _) ho' (fun h' m he => ?_)
  simp only [Option.some.injEq, Prod.mk.injEq] at he
  obtain ⟨rfl, rfl⟩ := he
  exact .inr ⟨w.heap.size, 0, #[], by rw [hH]; rfl, hB, by simp, heap_new w _, by simp, by simp [maxLen], by simp, fun r hr => by simp at hr, fun i r j d hi hj => by simp at hi⟩

/-- A slice and nil: the answer is open where the slice is empty. -/
theorem TrOps.eqNil {t u k d : Nat} {x : Operand} {rows : List (List D)} (ho : o.op = .binOp .eql t x (.const (.slice none 0 0)) u) (hx : opS e x = some (.d (.s k rows))) (hk : esz P t = some k) (hg : o.guard = none) (hd : o.dst = some d) (hdN : d < N)
    (h : ∀ b : Bool, (b = true → rows = []) → TrOps P N w0 O0 ops Q ((d, .d (.v (.bool b))) :: e) M rest) : TrOps P N w0 O0 ops Q e M (o :: rest) := by
  intro O H a w hst
  have hx' := hst.slotsAt o.op.operands x (by simp [ho, Op.operands]) _ hx
  generalize hv : a.eval x = v at hx'
  obtain ⟨ad, l, c, rfl, hnil⟩ : ∃ ad l c, v = .slice ad l c ∧ (ad.isNone = true → rows = []) := by
    cases hx' with
    | d _ _ q => cases q with
      | e a c _ _ => exact ⟨_, _, _, rfl, fun _ => rfl⟩
      | s b off c _ _ y => exact ⟨_, _, _, rfl, fun h => by simp at h⟩
  refine wpList_plain hg fun K hK => ?_
  have hu := (esz_spec hk).1
  have hrun : (execOp a.eval o).run P w = .ok (.value (.bool ad.isNone)) w := by
    have hgd : eqGuard .eql t x (.const (.slice none 0 0)) (.slice ad l c) (.slice none 0 0) = pure () := rfl
    have ey : a.eval (.const (.slice none 0 0)) = .slice none 0 0 := rfl
    simp only [execOp, ho, hv, ey, hgd, Sem.run_bind, Sem.run_pure, Result.andThen_ok]
    simp only [binOp, Op.equal, Op.maxDepth, Sem.run_bind, run_equalIn_slice_nil w 9999 t (P.elem t) ad l c hu, Result.andThen_ok, Sem.run_pure]
  unfold Oper.wp
  rw [hrun]
  refine hK _ _ (h ad.isNone hnil O H _ _ ⟨?_, ?_, hst.bl, hst.lab, ?_, hst.mem⟩)
  · rw [hd]; exact hst.df
  · rw [hd]; simp [Act.put, hst.sz]
  · rw [hd]
    exact put_slots hst.sz hdN (.d _ _ (.v _)) fun n s hs => hst.slots n s hs
end
def fo1 (P : Program) (t k : Nat) : Option Nat := match P.underlying t with
  | some (.struct fs) => match fs[k]? with
    | some f => if vsz P f.type = some (false, 1) then some f.offset else none
    | none => none
  | _ => none
/-- A field of one cell, out of a struct value. -/
theorem OpSem.field1 {P : Program} {B : Nat} {o : Oper} {e : Env} {M : Mem} {s : S} {t k n : Nat} {x : Operand} {ss : List S} (ho : o.op = .field t x k) (hx : opS e x = some (.g ss)) (ht : fo1 P t k = some n) (hs : ss[n]? = some s) : OpSem P B o e M s none :=
  .value fun O H a w hsl _ => by
    have hr := hsl x (by simp [ho, Op.operands]) _ hx
    generalize hv : a.eval x = v at hr
    cases hr with
    | g xs ss hl h1 h =>
      have hlt : n < xs.length := by rw [hl]; exact (List.getElem?_eq_some_iff.1 hs).1
      refine ⟨xs[n], ?_, h n _ s (List.getElem?_eq_getElem hlt) hs⟩
      unfold fo1 at ht
      split at ht
      · rename_i fs hu
        split at ht
        · rename_i f hf
          split at ht
          · rename_i hvz
            simp only [Option.some.injEq] at ht
            subst ht
            have hp : (part f.type xs.toArray f.offset).run P w = .ok xs[f.offset] w := by
              simp [part, Sem.run_bind, (run_isAgg hvz w).1, hlt]
            simp [execOp, ho, hv, Instr.field, run_underlying hu, hf, asAgg, Sem.run_bind, hp]
          · cases ht
        · cases ht
      · cases ht
end Go.Eng
