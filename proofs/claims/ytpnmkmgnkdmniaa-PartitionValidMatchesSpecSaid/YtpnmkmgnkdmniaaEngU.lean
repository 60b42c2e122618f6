/- The engine, ranges over functions: what an iterator owes. -/
import Derived.Test.YtpnmkmgnkdmniaaEng16
import Derived.RangeFuncFrom
import Derived.RangeFuncLeaves
import Derived.TacticsIn
import Derived.RangeFuncBox
import Derived.WalkKit
import Derived.OwnWalkIn
import Derived.TacticsInMore
import Derived.LoopNIn
import Derived.LoopIn
set_option linter.unusedSimpArgs false
set_option linter.unnecessarySimpa false
set_option linter.unusedVariables false
namespace Go.Eng
open Go.RowKit (Below)

theorem rowsIn_wide {n : Nat} {P : Program} {row : String} {args : Array Value} {w : World} {R : Value → World → Prop} (h : Go.Rows P row args w R) : Go.RowsIn Fence.wide n P row args w R :=
  fun c cs _ => let ⟨v, w', r, s⟩ := h c cs; ⟨v, w', r, stepsIn_wide.2 s⟩

/-- An operation that ends in no panic, seen from inside the wide fence. -/
theorem Oper.wpIn_of {P : Program} {o : Oper} {a : Act} {w : World} {K : Act → World → Prop} (h : o.wp P a w K (fun _ _ _ => False)) (n : Nat) (Q : Post) : o.wpIn Fence.wide n P a w K Q := by
  refine ⟨fun f _ => trivial, ?_⟩
  have hs : o.semAt Fence.wide.round a.eval = execOp a.eval o := rfl
  rw [hs]
  unfold Oper.wp at h
  generalize (execOp a.eval o).run P w = r at h
  cases r with
  | ok nx w' =>
    cases nx <;> simp only [Oper.upon, Oper.uponIn] at h ⊢ <;> first
      | exact h
      | exact h.elim
      | (refine ⟨fun hd => by simp [Fence.wide] at hd, callsIn_wide.2 (Calls.mono h fun e w'' he => ?_)⟩
         cases e with
         | returned v => exact he
         | panicked c => exact he.elim
         | outgrown => obtain ⟨_, _, h⟩ := he; exact h.elim)
      | exact ⟨fun hd => by simp [Fence.wide] at hd, rowsIn_wide h⟩
  | halt x w' => cases x <;> simp only [Oper.upon, Oper.uponIn] at h ⊢

section
variable {P : Program} {N : Nat} {w0 : World} {O0 : Nat → Nat} {ops : Array Oper} {Q : Post} {e : Env} {M : Mem} {rest : List Oper} {o : Oper} {s : S}

/-- A list of operations, inside the wide fence: a call of yield may stand among them. -/
def TrL (n : Nat) (P : Program) (N : Nat) (w0 : World) (O0 : Nat → Nat) (ops : Array Oper) (Q : Post) (e : Env) (M : Mem) (rest : List Oper) : Prop :=
  ∀ (O : Nat → Nat) (H : Nat → Value) (a : Act) (w : World), St N w0 O0 e M O H a w → wpListIn Fence.wide n P ops Q rest a w

theorem Tr.regionL {n id : Nat} {l : List Oper} (h : TrL n P N w0 O0 l.toArray Q e M l) : Tr P N w0 O0 e M (.region id l.toArray false) Q :=
  fun O H a w hst => wpIn_wide.1 (wpIn_region_lit (n := n) (h O H a w hst))

theorem TrL.nil {n : Nat} (h : At N w0 O0 e M .normal Q) : TrL n P N w0 O0 ops Q e M [] := fun O H a w hst => h O H a w hst

theorem TrL.sem {n : Nat} (hsem : OpSem P w0.heap.size o e M s none) {d : Nat} (hg : o.guard = none) (hd : o.dst = some d) (hdN : d < N)
    (h : TrL n P N w0 O0 ops Q ((d, s) :: e) M rest) : TrL n P N w0 O0 ops Q e M (o :: rest) := by
  intro O H a w hst
  refine wpListIn_plain hg fun K hK => Oper.wpIn_of (hsem O H a w hst.size (hst.slotsAt _) hst.mem K ?_) n Q
  intro O' H' w' x hk hb hr _
  have hsz := hst.size
  refine hK _ _ (h O' H' _ _ ⟨?_, ?_, hst.bl.trans (hb.mono hst.size), fun b hb' => (hk.lab b (by omega)).trans (hst.lab b hb'), ?_, fun h' m hm => ?_⟩)
  · rw [hd]; exact hst.df
  · rw [hd]; simp [Act.put, hst.sz]
  · rw [hd]
    exact put_slots hst.sz hdN hr fun n s hs => by
      obtain ⟨y, hy, hr⟩ := hst.slots n s hs
      exact ⟨y, hy, hr.mono0 hk⟩
  · exact (hst.mem h' m hm).mono hk (by simp) (by simp) 0 (fun h he => by cases he) (.inl rfl)

/-- What an iterator may still say of a value when a round has run: what lay below n0 lies as it lay. -/
def capK (lb : Value) (Oc : Nat → Nat) (W : World) : Kr := {
  q O w x := x = lb ∧ Keeps Oc W O w
  mono := fun O w O' w' x hk h => ⟨h.1, h.2.trans hk⟩ }

def belowO (n0 : Nat) (Oc : Nat → Nat) : Nat → Nat := fun b => if b < n0 then Oc b else 1

theorem capK_next {lb : Value} {Oc O : Nat → Nat} {W w w' : World} {x : Value} (h : (capK lb Oc W).q O w x) (hb : Below W.heap.size w w') : (capK lb Oc W).q (belowO W.heap.size Oc) w' x :=
  ⟨h.1, fun b hlt h0 => ⟨by simp [belowO, hlt, h0], (hb.block b hlt).trans (h.2 b hlt h0).2⟩⟩

/-- A variable that the iterator has captured, read. -/
theorem OpSem.loadK {B : Nat} {t : TypeId} {x : Operand} {lb : Value} {Oc : Nat → Nat} {W : World} {cs : List D} {d : D} (ho : o.op = .load t x) (hx : opS e x = some (.a (capK lb Oc W))) (hc : RepS Oc zH W lb (.p cs)) (ht : vsz P t = some (false, 1)) (hd : cs[0]? = some d) :
    OpSem P B o e M (.d d) none :=
  .value fun O H a w hs _ => by
    have hr := hs x (by simp [ho, Op.operands]) _ hx
    generalize hv : a.eval x = v at hr
    cases hr with
    | a x K hq =>
      obtain ⟨rfl, hk⟩ := hq
      have hc' := hc.keeps hk
      cases hc' with
      | p b off cs y hO hy hr =>
        have hcell := hy 0 d hd
        refine ⟨y 0, ?_, .d _ _ (hr 0 d hd)⟩
        simp only [Nat.add_zero] at hcell
        simp [execOp, ho, Instr.loadAt, Instr.sureAddr, hv, run_loadVar1 ht hcell]

/-- Which slots outlive a round: data without memory, and what is captured. -/
def Stays (W0 : World) (Oc : Nat → Nat) (e : Env) : Prop := ∀ n s, look e n = some s → S.flat 9 s = true ∨ ∃ lb, s = .a (capK lb Oc W0)
theorem Stays.nil {W0 : World} {Oc : Nat → Nat} : Stays W0 Oc [] := fun n s h => by cases h
theorem Stays.flat {W0 : World} {Oc : Nat → Nat} {n : Nat} {s : S} {e : Env} (h : S.flat 9 s = true) (t : Stays W0 Oc e) : Stays W0 Oc ((n, s) :: e) := fun m s' hl => by
  rcases look_cons hl with ⟨rfl, rfl⟩ | ⟨_, hl⟩
  · exact .inl h
  · exact t m s' hl
theorem Stays.cap {W0 : World} {Oc : Nat → Nat} {n : Nat} {lb : Value} {e : Env} (t : Stays W0 Oc e) : Stays W0 Oc ((n, .a (capK lb Oc W0)) :: e) := fun m s' hl => by
  rcases look_cons hl with ⟨rfl, rfl⟩ | ⟨_, hl⟩
  · exact .inr ⟨lb, rfl⟩
  · exact t m s' hl

theorem yieldOf {a : Act} {w : World} {l : Nat} {g : Operand} {as_ : Array Operand} {ts : Array TypeId} {vs : List Value} (ho : o.op = .call { callee := .value g, args := as_, argTypes := ts }) (hg : a.eval g = .func (.yield l) #[] #[]) (ha : as_.toList.map a.eval = vs) :
    (execOp a.eval o).run P w = (Instr.yield l vs.toArray).run P w := by
  have : as_.map a.eval = vs.toArray := by rw [← ha]; apply Array.ext'; simp
  simp [execOp, ho, resolve, hg, Deferred.ofValue, invoke, this]

/-- The call of yield: behind it a new world begins, of which the round's word is known. -/
theorem TrL.yield {n l d : Nat} {g : Operand} {as_ : Array Operand} {ts : Array TypeId} {vs : List Value} {W0 : World} {Oc : Nat → Nat} {R : Bool → World → Prop}
    (ho : o.op = .call { callee := .value g, args := as_, argTypes := ts }) (hgd : o.guard = none) (hd : o.dst = some d) (hdN : d < N) (hg : opS e g = some (.d (.v (.func (.yield l) #[] #[])))) (ha : opsS e as_.toList = some (vs.map fun v => .d (.v v)))
    (hY : ∀ w, Below w0.heap.size w0 w → YieldAt Fence.wide (n - 1) P l vs.toArray w fun en w' => ∃ b, en = .returned (.bool b) ∧ R b w' ∧ (b = true → Below W0.heap.size w w'))
    (hs : Stays W0 Oc e) (hT : ∀ w', R true w' → TrL n P N w' (belowO W0.heap.size Oc) ops Q ((d, .d (.v (.bool true))) :: e) [] rest) (hF : ∀ w', R false w' → TrL n P N w' (belowO W0.heap.size Oc) ops Q [(d, .d (.v (.bool false)))] [] rest) :
    TrL n P N w0 O0 ops Q e M (o :: rest) := by
  intro O H a w hst
  refine wpListIn_plain hgd fun K hK => ?_
  obtain ⟨fn, tmps, assign, body, hrun, hR⟩ := hY w hst.bl
  have hg' : a.eval g = .func (.yield l) #[] #[] := by
    have := hst.slotsAt #[g] g (by simp) _ hg
    generalize a.eval g = v at this
    cases this with
    | d _ _ q => cases q with
      | v _ => rfl
  have ha' : as_.toList.map a.eval = vs := by
    obtain ⟨a1, a2⟩ := opsS_rep (O := O) (H := H) (w := w) (a := a) as_.toList _ ha (fun x hx s hs' => hst.slotsAt as_ x (by simpa using hx) s hs')
    refine List.ext_getElem (by simpa using a1) fun i h1 h2 => ?_
    have := a2 i _ _ (List.getElem?_eq_getElem h1) (by rw [List.getElem?_map, List.getElem?_eq_getElem h2]; rfl)
    generalize (as_.toList.map a.eval)[i] = v at this
    cases this with
    | d _ _ q => cases q with
      | v _ => rfl
  refine ⟨fun f _ => trivial, ?_⟩
  have hsm : o.semAt Fence.wide.round a.eval = execOp a.eval o := rfl
  rw [hsm, yieldOf ho hg' ha', hrun, Oper.uponIn_round]
  refine ⟨fun h => by simp [Fence.wide] at h, hR.mono ?_⟩
  rintro en w' ⟨b, rfl, hRb, hbl⟩
  have hnew : ∀ e', (∀ n s, look e' n = some s → S.flat 9 s = true ∨ (b = true ∧ ∃ lb, s = .a (capK lb Oc W0))) → (∀ n s, look e' n = some s → look e n = some s) → St N w' (belowO W0.heap.size Oc) ((d, .d (.v (.bool b))) :: e') [] (belowO W0.heap.size Oc) zH (a.put (some d) (.bool b)) w' := fun e' he' hsub => by
    refine ⟨hst.df, by simp [Act.put, hst.sz], .refl _ _, fun _ _ => rfl, ?_, fun h m hm => by cases hm⟩
    refine put_slots hst.sz hdN (.d _ _ (.v _)) fun n s hl => ?_
    obtain ⟨y, hy, hr⟩ := hst.slots n s (hsub n s hl)
    refine ⟨y, hy, ?_⟩
    rcases he' n s hl with hf | ⟨hb, lb, rfl⟩
    · exact hr.flat 9 hf
    · cases hr with
      | a x K hq => exact .a _ _ (capK_next hq (hbl hb))
  refine hK _ _ ?_
  rw [hd]
  cases b with
  | true => exact hT w' hRb _ _ _ _ (hnew e (fun n s hl => (hs n s hl).imp id fun h => ⟨rfl, h⟩) fun _ _ h => h)
  | false => exact hF w' hRb _ _ _ _ (hnew [] (fun n s hl => by cases hl) fun _ _ h => by cases h)

/-- From here on this world is the beginning: data without memory and what is captured remain. -/
inductive Reb (W0 : World) (Oc : Nat → Nat) (e : Env) : Env → Prop
  | nil : Reb W0 Oc e []
  | flat {n : Nat} {s s' : S} {e' : Env} (h : look e n = some s) (hl : Le s s') (hf : S.flat 9 s' = true) (t : Reb W0 Oc e e') : Reb W0 Oc e ((n, s') :: e')
  | cap {n : Nat} {lb : Value} {e' : Env} (h : look e n = some (.a (capK lb Oc W0))) (t : Reb W0 Oc e e') : Reb W0 Oc e ((n, .a (capK lb Oc W0)) :: e')
theorem Reb.st {W0 : World} {Oc : Nat → Nat} {e' : Env} (hr : Reb W0 Oc e e') {O : Nat → Nat} {H : Nat → Value} {a : Act} {w : World} (hst : St N w0 O0 e M O H a w) : St N w (belowO W0.heap.size Oc) e' [] (belowO W0.heap.size Oc) zH a w := by
  induction hr with
  | nil => exact ⟨hst.df, hst.sz, .refl _ _, fun _ _ => rfl, fun n s h => (by cases h), fun n m h => (by cases h)⟩
  | flat h hl hf t ih =>
    refine ⟨ih.df, ih.sz, ih.bl, ih.lab, fun n s hs => ?_, ih.mem⟩
    rcases look_cons hs with ⟨rfl, rfl⟩ | ⟨_, hs⟩
    · obtain ⟨x, hx, hr⟩ := hst.slots _ _ h
      exact ⟨x, hx, (hl _ _ _ _ hr).flat 9 hf⟩
    · exact ih.slots n s hs
  | cap h t ih =>
    refine ⟨ih.df, ih.sz, ih.bl, ih.lab, fun n s hs => ?_, ih.mem⟩
    rcases look_cons hs with ⟨rfl, rfl⟩ | ⟨_, hs⟩
    · obtain ⟨x, hx, hr⟩ := hst.slots _ _ h
      cases hr with
      | a x K hq => exact ⟨x, hx, .a _ _ (capK_next hq (.refl _ _))⟩
    · exact ih.slots n s hs

theorem St.boxAt {O : Nat → Nat} {H : Nat → Value} {a : Act} {w : World} (hst : St N w0 O0 e M O H a w) {n h : Nat} {cs : List S} (hs : look e n = some (.r h 0)) (hM : look M h = some (.box cs)) :
    ∃ (b : Nat) (xs : Array Value) (T : Nat), a.tmps[n]? = some (.pointer (some ⟨b, 0, none⟩)) ∧ w0.heap.size ≤ b ∧ w.heap[b]? = some (.cells xs T (0, 0)) ∧ xs.size = cs.length ∧ ∀ (i : Nat) (s : S), cs[i]? = some s → ∃ x, xs[i]? = some x ∧ RepS O H w x s := by
  obtain ⟨y, hy, r⟩ := hst.slots n _ hs
  obtain ⟨b, xs, T, hH, hB, _, hb, hl, hc⟩ := hst.mem h _ hM
  cases r with
  | r h b' k hH' =>
    rw [hH] at hH'
    simp only [Value.pointer.injEq, Option.some.injEq, Addr.mk.injEq, and_true] at hH'
    subst hH'
    exact ⟨b, xs, T, hy, hB, hb, hl, fun i s hs => by obtain ⟨x, h1, h2, _⟩ := hc i s hs; exact ⟨x, h1, h2⟩⟩
theorem RepS.vEq {O : Nat → Nat} {H : Nat → Value} {w : World} {x y : Value} (h : RepS O H w x (.d (.v y))) : x = y := by
  cases h with
  | d _ _ q => cases q with
    | v _ => rfl
theorem cells1 {xs : Array Value} {x : Value} (hl : xs.size = 1) (h : xs[0]? = some x) : xs = #[x] := by
  obtain ⟨l⟩ := xs
  match l, hl with
  | [y], _ => simp at h; rw [h]
theorem cells2 {xs : Array Value} {x y : Value} (hl : xs.size = 2) (h : xs[0]? = some x) (h' : xs[1]? = some y) : xs = #[x, y] := by
  obtain ⟨l⟩ := xs
  match l, hl with
  | [a, b], _ => simp at h h'; rw [h, h']
theorem len_cons {l : List Value} {n : Nat} (h : l.length = n + 1) : ∃ x l', l = x :: l' ∧ l'.length = n := by
  cases l with
  | nil => cases h
  | cons x l => exact ⟨x, l, rfl, by simpa using h⟩
theorem At.marks {F : Fence} {n : Nat} {fn : Func} {R : Ending → World → Prop} (h : At N w0 O0 e M .ret (bodyPost P fn R)) : At N w0 O0 e M .ret (bodyPostM F n P fn R) := fun O H a w hst => by
  obtain ⟨hd, v, hr, hR⟩ := h O H a w hst
  show LeavesInM F n P fn a.tmps R a.defers .returning w
  rw [hst.df]
  exact ⟨v, hr, hR⟩
/-- The cells of a list of numbers that is not empty. -/
theorem RepD.intCells {O : Nat → Nat} {w : World} {v : Value} {c : List Int} (h : RepD O w v (.s 1 (c.map fun n => [D.v (.int .i64 n)]))) (h0 : 0 < c.length) :
    ∃ b off cap, v = .slice (some ⟨b, off, none⟩) c.length cap ∧ ∀ k : Nat, k < c.length → w.cell? ⟨b, off + k, none⟩ = some (.int .i64 (nth c k)) := by
  generalize hr : (c.map fun n => [D.v (.int .i64 n)]) = rows at h
  have hrl : rows.length = c.length := by rw [← hr]; simp
  cases h with
  | e a c' k hm => simp at hrl; omega
  | s b off cap k rows y hc hm hw hO hy hrep =>
    refine ⟨b, off, cap, by rw [hrl], fun k hk => ?_⟩
    have h1 : rows[k]? = some [D.v (.int .i64 (nth c k))] := by rw [← hr]; simp [nth, hk]
    have := hy k _ 0 _ h1 rfl
    have hv := hrep k _ 0 _ h1 rfl
    simp only [Nat.mul_one, Nat.add_zero] at this hv
    rw [this]
    generalize y k = z at hv
    cases hv with
    | v _ => rfl

/-- A loop whose invariant speaks of the world. -/
theorem Tr.loopI {c : Code} (I : Nat → Act → World → Prop) (m0 : Nat) (h0 : ∀ (O : Nat → Nat) (H : Nat → Value) (a : Act) (w : World), St N w0 O0 e M O H a w → I m0 a w)
    (hb : ∀ m a w, I m a w → c.wp P (Exit.then (fun a' w' => ∃ m', m' < m ∧ I m' a' w') Q) a w) : Tr P N w0 O0 e M (.loop c) Q := by
  intro O H a w hst
  refine wp_loop_ghost I m0 (h0 O H a w hst) ?_
  intro n a w hI
  refine wp_mono (hb n a w hI) fun ex a' w' hq => ?_
  cases ex with
  | normal => exact hq
  | exit id => exact hq
  | goto l => exact hq
  | ret => exact hq
  | panic c => exact hq
  | outgrown => exact hq
end
end Go.Eng
