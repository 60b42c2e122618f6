/- The engine, part 18: callees that write an argument. -/
import Derived.Test.YtohlmcebphcokaaEng17
set_option linter.unusedSimpArgs false
set_option linter.unnecessarySimpa false
set_option linter.unusedVariables false
namespace Go.Eng
open Go.RowKit (Below)

/-- The exact value of what a slot holds, where it is known. -/
def valS (H : Nat → Value) : Nat → S → Option Value
  | 0, _ => none
  | n + 1, s => match s with
    | .d (.v x) => some x
    | .o h => some (H h)
    | .g cs => (cs.mapM (valS H n)).map fun l => .agg l.toArray
    | .t cs => (cs.mapM (valS H n)).map fun l => .tuple l.toArray
    | .f fn [] [] => some (.func (.func fn) #[] #[])
    | _ => none
theorem valS_list {O : Nat → Nat} {H : Nat → Value} {w : World} {f : S → Option Value} : ∀ {xs : List Value} {ss : List S} {ys : List Value}, xs.length = ss.length →
    (∀ (i : Nat) (x : Value) (s : S) (y : Value), xs[i]? = some x → ss[i]? = some s → f s = some y → x = y) → ss.mapM f = some ys → xs = ys := by
  intro xs ss ys hl h hm
  obtain ⟨m1, m2⟩ := mapM_some hm
  refine List.ext_getElem (by rw [hl, m1]) fun i h1 h2 => ?_
  exact h i _ _ _ (List.getElem?_eq_getElem h1) (List.getElem?_eq_getElem (by omega)) (m2 i _ _ (List.getElem?_eq_getElem (by omega)) (List.getElem?_eq_getElem h2))
theorem valS_rep {O : Nat → Nat} {H : Nat → Value} {w : World} : ∀ (n : Nat) {x y : Value} {s : S}, RepS O H w x s → valS H n s = some y → x = y
  | 0, _, _, _, _, h => by simp [valS] at h
  | n + 1, x, y, s, hr, h => by
    cases hr with
    | d x d hd =>
      cases hd with
      | v x => simpa [valS] using h
      | e => simp [valS] at h
      | s => simp [valS] at h
    | g xs ss hl h1 hg =>
      simp only [valS, Option.map_eq_some_iff] at h
      obtain ⟨l, hl', rfl⟩ := h
      rw [valS_list (O := O) (H := H) (w := w) hl (fun i x s y hx hs hv => valS_rep n (hg i x s hx hs) hv) hl']
    | t xs ss hl hg =>
      simp only [valS, Option.map_eq_some_iff] at h
      obtain ⟨l, hl', rfl⟩ := h
      rw [valS_list (O := O) (H := H) (w := w) hl (fun i x s y hx hs hv => valS_rep n (hg i x s hx hs) hv) hl']
    | o h' h1 => simpa [valS] using h
    | f fn xs ys fs cs hl hl' hx hy =>
      cases fs with
      | nil =>
        cases cs with
        | nil =>
          cases xs with
          | nil =>
            cases ys with
            | nil => simpa [valS] using h
            | cons => simp at hl'
          | cons => simp at hl
        | cons => simp [valS] at h
      | cons => simp [valS] at h
    | p => simp [valS] at h
    | r => simp [valS] at h
    | q => simp [valS] at h
    | w => simp [valS] at h
    | a => simp [valS] at h
    | c => simp [valS] at h
    | u => simp [valS] at h

/-- Only the block of a slice may have changed. -/
structure Touch (v : Value) (w w' : World) : Prop where
  os : w'.os = w.os
  tape : w'.tape = w.tape
  output : w'.output = w.output
  size : w.heap.size ≤ w'.heap.size
  same : ∀ b, b < w.heap.size → v.ownBlock ≠ some b → w'.heap[b]? = w.heap[b]?

def newBlock (v v' : Value) (w : World) : Prop := v'.ownBlock = none ∨ v'.ownBlock = v.ownBlock ∨ ∃ b, v'.ownBlock = some b ∧ w.heap.size ≤ b

/-- What a function promises that is handed a slice that it may write. -/
structure DoesW (P : Program) (f : Nat) (args : Value → List Value) (res : Value → Value) (k T : Nat) (rows rows' : List (List D)) : Prop where
  can : ∀ xs w, (callFunc f xs).run P w = .ok (.enter f xs) w
  run : ∀ (w : World) (v : Value), OwnVal 0 w v k T rows → Calls P f (args v).toArray w fun en w' => ∃ v', en = .returned (res v') ∧ Touch v w w' ∧ OwnVal 0 w' v' k T rows' ∧ newBlock v v' w
/-- .. and leaves the slice's value as it is. -/
structure DoesWS (P : Program) (f : Nat) (args : Value → List Value) (res : Value) (k T : Nat) (rows rows' : List (List D)) : Prop where
  can : ∀ xs w, (callFunc f xs).run P w = .ok (.enter f xs) w
  run : ∀ (w : World) (v : Value), OwnVal 0 w v k T rows → Calls P f (args v).toArray w fun en w' => en = .returned res ∧ Touch v w w' ∧ OwnVal 0 w' v k T rows'

def plainB (rows : List (List D)) : Bool := rows.all fun r => r.all fun d => match d with | .v _ => true | _ => false

theorem MHold.ownVal {O : Nat → Nat} {H : Nat → Value} {B : Nat} {w : World} {h k T : Nat} {rows : List (List D)} (hm : MHold O H B w h (.own k T rows)) (hp : plainB rows = true) : OwnVal B w (H h) k T rows := by
  rcases hm with ⟨h0, rfl⟩ | ⟨b, cap, xs, hH, hB, hO, hb, hlc, hcm, hsz, hw, hc⟩
  · exact .inl ⟨h0, rfl⟩
  · refine .inr ⟨b, cap, xs, hH, hB, hb, hlc, hcm, hsz, hw, fun i r j d hi hj => ?_⟩
    obtain ⟨x, hx, hr, h1⟩ := hc i r j d hi hj
    have := List.all_eq_true.1 (List.all_eq_true.1 hp r (List.mem_of_getElem? hi)) d (List.mem_of_getElem? hj)
    cases hr with
    | v _ => exact ⟨x, hx, rfl, h1⟩
    | _ => simp at this
theorem OwnVal.weak {B B' : Nat} {w : World} {x : Value} {k T : Nat} {rows : List (List D)} (h : OwnVal B w x k T rows) (hB : B' ≤ B) : OwnVal B' w x k T rows := by
  rcases h with h | ⟨b, cap, xs, h1, h2, h3⟩
  · exact .inl h
  · exact .inr ⟨b, cap, xs, h1, by omega, h3⟩
theorem MHold.label {O : Nat → Nat} {H : Nat → Value} {B : Nat} {w : World} {h k T : Nat} {rows : List (List D)} (hm : MHold O H B w h (.own k T rows)) {b : Nat} (hb : (H h).ownBlock = some b) : O b = h + 1 ∧ B ≤ b ∧ b < w.heap.size := by
  rcases hm with ⟨h0, rfl⟩ | ⟨b', cap, xs, hH, hB, hO, hb', _⟩
  · rw [h0] at hb; cases hb
  · rw [hH] at hb
    simp only [Value.ownBlock, Option.some.injEq] at hb
    subst hb
    exact ⟨hO, hB, (Array.getElem?_eq_some_iff.1 hb').1⟩

theorem callW_core {O : Nat → Nat} {H : Nat → Value} {B : Nat} {w w' : World} {h k T : Nat} {rows rows' : List (List D)} {v' : Value} (hm : MHold O H B w h (.own k T rows)) (hB : B ≤ w.heap.size) (ht : Touch (H h) w w') (hv : OwnVal 0 w' v' k T rows') (hn : newBlock (H h) v' w) :
    ∃ O' H', H' h = v' ∧ v'.oneCell' = true ∧ Keep (some h) (some h) O H w O' H' w' ∧ Below B w w' ∧ MHold O' H' B w' h (.own k T rows') := by
  refine ⟨fun b => if b < w.heap.size then O b else h + 1, fun n => if n = h then v' else H n, by simp, ?_, ⟨fun b hb => by simp [hb], fun b hb hne => ht.same b hb fun e => ?_, fun n hn => ?_⟩, ⟨ht.os, ht.tape, ht.output, ht.size, fun b hb => ht.same b (by omega) fun e => ?_⟩, ?_⟩
  · rcases hv with ⟨rfl, _⟩ | ⟨b, cap, xs, rfl, _⟩ <;> rfl
  · exact hne h rfl (hm.label e).1
  · have : n ≠ h := fun e => hn (by rw [e])
    simp [this]
  · have := (hm.label e).2.1; omega
  · rcases hv with ⟨rfl, rfl⟩ | ⟨b, cap, xs, rfl, _, hb, hlc, hcm, hsz, hw, hc⟩
    · exact .inl ⟨by simp, rfl⟩
    · refine .inr ⟨b, cap, xs, by simp, ?_, ?_, hb, hlc, hcm, hsz, hw, fun i r j d hi hj => ?_⟩
      · rcases hn with hn | hn | ⟨b', hn, hb'⟩
        · cases hn
        · exact (hm.label hn.symm).2.1
        · simp only [Value.ownBlock, Option.some.injEq] at hn; omega
      · rcases hn with hn | hn | ⟨b', hn, hb'⟩
        · cases hn
        · have := hm.label hn.symm
          simp [this.1, this.2.2]
        · simp only [Value.ownBlock, Option.some.injEq] at hn
          subst hn
          have : ¬ b < w.heap.size := by omega
          simp [this]
      · obtain ⟨x, hx, rfl, h1⟩ := hc i r j d hi hj
        exact ⟨x, hx, .v x, h1⟩

section
variable {P : Program} {N : Nat} {w0 : World} {O0 : Nat → Nat} {ops : Array Oper} {Q : Post} {e : Env} {M : Mem} {rest : List Oper} {o : Oper} {s : S} {B : Nat}

theorem argsEq {a : Act} {O : Nat → Nat} {H : Nat → Value} {w : World} {as_ : Array Operand} {l : List S} {ys : List Value} (hs : ∀ x, x ∈ as_ → ∀ s, opS e x = some s → RepS O H w (a.eval x) s) (ha : opsS e as_.toList = some l) (hv : l.mapM (valS H 9) = some ys) : as_.toList.map a.eval = ys := by
  obtain ⟨a1, a2⟩ := opsS_rep (O := O) (H := H) (w := w) (a := a) as_.toList l ha (fun x hx s hs' => hs x (by simpa using hx) s hs')
  exact valS_list (O := O) (H := H) (w := w) (by simpa using a1) (fun i x s y hx hs hv => valS_rep 9 (a2 i x s hx hs) hv) hv

theorem run_callW {a : Act} {w : World} {fn : Nat} {g : Operand} {as_ : Array Operand} {ts : Array TypeId} {ys : List Value} (can : ∀ xs w, (callFunc fn xs).run P w = .ok (.enter fn xs) w) (ho : o.op = .call { callee := .value g, args := as_, argTypes := ts }) (hg : a.eval g = .func (.func fn) #[] #[]) (ha : as_.toList.map a.eval = ys) :
    (execOp a.eval o).run P w = .ok (.enter fn ys.toArray) w := by
  have := run_call (o := o) (xs := []) (zs := []) can a w g as_ ts ho hg ha
  simpa using this

/-- A call that writes a slice of the caller's own in place. -/
theorem OpSt.callWS {h fn k T : Nat} {g : Operand} {as_ : Array Operand} {ts : Array TypeId} {rows rows' : List (List D)} {args : Value → List Value} {res : Value} {l : List S} (hspec : DoesWS P fn args res k T rows rows')
    (ho : o.op = .call { callee := .value g, args := as_, argTypes := ts }) (hg : opS e g = some (.f fn [] [])) (ha : opsS e as_.toList = some l) (hv : ∀ H, l.mapM (valS H 9) = some (args (H h))) (hp : plainB rows = true) (hr : ∀ O H w, RepS O H w res s) :
    OpSt P B o e h (.own k T rows) (.own k T rows') s := by
  intro O H a w hB hs hm K hK
  have hg' : a.eval g = .func (.func fn) #[] #[] := valS_rep 9 (hs g (by simp [ho, Op.operands, Call.operands]) _ hg) rfl
  have hargs := argsEq (a := a) (O := O) (H := H) (w := w) (as_ := as_) (fun x hx s hs' => hs x (by simp only [ho, Op.operands, Call.operands]; simpa using .inr hx) s hs') ha (hv H)
  unfold Oper.wp
  rw [run_callW hspec.can ho hg' hargs]
  refine (hspec.run w (H h) ((hm.ownVal hp).weak (Nat.zero_le _))).mono ?_
  rintro en w' ⟨rfl, ht, hv'⟩
  have hk : Keep (some h) none O H w O H w' := ⟨fun _ _ => rfl, fun b hb hne => ht.same b hb fun e => hne h rfl (hm.label e).1, fun _ _ => rfl⟩
  refine hK w' _ hk ⟨ht.os, ht.tape, ht.output, ht.size, fun b hb => ht.same b (by omega) fun e => ?_⟩ ?_ (hr _ _ _)
  · have := (hm.label e).2.1; omega
  · rcases hv' with ⟨h0, rfl⟩ | ⟨b, cap, xs, h0, _, hb, hlc, hcm, hsz, hw, hc⟩
    · exact .inl ⟨h0, rfl⟩
    · have hl := hm.label (b := b) (by rw [h0]; rfl)
      refine .inr ⟨b, cap, xs, h0, hl.2.1, hl.1, hb, hlc, hcm, hsz, hw, fun i r j d hi hj => ?_⟩
      obtain ⟨x, hx, rfl, h1⟩ := hc i r j d hi hj
      exact ⟨x, hx, .v x, h1⟩

/-- A call that writes a slice of the caller's own and hands back another one in its place. -/
theorem TrOps.callW {h d fn k T : Nat} {g : Operand} {as_ : Array Operand} {ts : Array TypeId} {rows rows' : List (List D)} {args : Value → List Value} {res : Value → Value} {l : List S} (hspec : DoesW P fn args res k T rows rows')
    (ho : o.op = .call { callee := .value g, args := as_, argTypes := ts }) (hgd : o.guard = none) (hd : o.dst = some d) (hdN : d < N) (hg : opS e g = some (.f fn [] [])) (ha : opsS e as_.toList = some l) (hM : look M h = some (.own k T rows)) (hv : ∀ H, l.mapM (valS H 9) = some (args (H h))) (hp : plainB rows = true)
    (hr : ∀ O (H : Nat → Value) w, (H h).oneCell' = true → RepS O H w (res (H h)) s) (hn : TrOps P N w0 O0 ops Q ((d, s) :: kill h e) ((h, .own k T rows') :: killM h M) rest) : TrOps P N w0 O0 ops Q e M (o :: rest) := by
  intro O H a w hst
  have hm := hst.mem h _ hM
  refine wpList_plain hgd fun K hK => Oper.wp_false ?_ Q
  have hg' : a.eval g = .func (.func fn) #[] #[] := valS_rep 9 (hst.slotsAt #[g] g (by simp) _ hg) rfl
  have hargs := argsEq (a := a) (O := O) (H := H) (w := w) (as_ := as_) (fun x hx s hs' => hst.slotsAt as_ x hx s hs') ha (hv H)
  unfold Oper.wp
  rw [run_callW hspec.can ho hg' hargs]
  refine (hspec.run w (H h) ((hm.ownVal hp).weak (Nat.zero_le _))).mono ?_
  rintro en w' ⟨v', rfl, ht, hv', hnb⟩
  obtain ⟨O', H', h1, h2, hk, hb, hmm⟩ := callW_core hm hst.size ht hv' hnb
  have hrx := hr O' H' w' (by rw [h1]; exact h2)
  rw [h1] at hrx
  have hsz := hst.size
  refine hK _ _ (hn O' H' _ _ ⟨?_, ?_, hst.bl.trans (hb.mono (Nat.le_refl _)), fun b hb' => (hk.lab b (by omega)).trans (hst.lab b hb'), ?_, fun h' m hm' => ?_⟩)
  · rw [hd]; exact hst.df
  · rw [hd]; simp [Act.put, hst.sz]
  · rw [hd]
    refine put_slots hst.sz hdN hrx fun n s hs => ?_
    obtain ⟨s', hs', hor⟩ := look_kill hs
    obtain ⟨y, hy, hr⟩ := hst.slots n s' hs'
    rcases hor with ⟨hok, rfl⟩ | rfl
    · exact ⟨y, hy, hr.mono hk 9 (fun h he => by cases he; exact hok) (.inr (by omega))⟩
    · exact ⟨y, hy, .u y⟩
  · rcases look_cons hm' with ⟨rfl, rfl⟩ | ⟨hne, hm'⟩
    · exact hmm
    · obtain ⟨m', hm2, hor⟩ := look_killM hm'
      rcases hor with rfl | ⟨hn', rfl⟩
      · trivial
      · exact ((hst.mem h' m' hm2).kill (h := h)).mono hk (by simp; omega) (by simp; omega) 9 (fun h1 he => by cases he; exact Mo.kill_ok _ m') (.inr (by omega))

/-- What was there when the call began, but for one block. -/
def frK (Oc : Nat → Nat) (W : World) : Kr := {
  q O w _ := Keeps Oc W O w
  mono := fun O w O' w' x hk h => h.trans hk }

def RetW (Oc : Nat → Nat) (W : World) (res : Value → Value) (k T : Nat) (rows : List (List D)) : Ending → World → Prop :=
  fun en w' => ∃ v' O', en = .returned (res v') ∧ w'.os = W.os ∧ w'.tape = W.tape ∧ w'.output = W.output ∧ Keeps Oc W O' w' ∧ OwnVal 0 w' v' k T rows ∧ ∀ b, v'.ownBlock = some b → O' b = 1

theorem DoesW.of_body {f : Nat} {args : Value → List Value} {res : Value → Value} {k T : Nat} {rows rows' : List (List D)} {as_ : List S} {fn : Func} {c : Code} (hf : P.funcs[f]? = some fn) (hb : fn.body = some c) (hN : fn.ntmps = N) (hlen : as_.length ≤ N)
    (can : ∀ xs w, (callFunc f xs).run P w = .ok (.enter f xs) w) (hal : ∀ v, (args v).length = as_.length) (hrep : ∀ O (H : Nat → Value) w, (H 0).oneCell' = true → ∀ (i : Nat) (x : Value) (s : S), (args (H 0))[i]? = some x → as_[i]? = some s → RepS O H w x s)
    (hne : rows ≠ []) (hne' : rows' ≠ [])
    (h : ∀ (O0 : Nat → Nat) (Oc : Nat → Nat) (W : World), Tr P N { W with heap := #[] } O0 (entry 0 as_) [(0, .own k T rows), (1000, .fr (frK Oc W))] c (bodyPost P fn (RetW Oc W res k T rows'))) : DoesW P f args res k T rows rows' := by
  refine ⟨can, fun w v hv => ?_⟩
  have h1c : v.oneCell' = true := by rcases hv with ⟨rfl, _⟩ | ⟨b, cap, xs, rfl, _⟩ <;> rfl
  obtain ⟨Oc, hOc⟩ : ∃ Oc : Nat → Nat, Oc = fun b => if v.ownBlock = some b then 1 else 0 := ⟨_, rfl⟩
  refine (calls_of_wp hf hb (h Oc Oc w Oc (fun _ => v) _ w ⟨rfl, ?_, ⟨rfl, rfl, rfl, Nat.zero_le _, fun k hk => absurd hk (Nat.not_lt_zero k)⟩, fun b hb => absurd hb (Nat.not_lt_zero b), fun n s hs => ?_, fun n m hm => ?_⟩)).mono ?_
  · have := hal v
    simp; omega
  · obtain ⟨_, hn⟩ := look_entry as_ 0 n s hs
    simp only [Nat.sub_zero] at hn
    have hlt : n < (args v).length := by rw [hal]; exact (List.getElem?_eq_some_iff.1 hn).1
    refine ⟨(args v)[n], ?_, hrep Oc (fun _ => v) w h1c n _ s (List.getElem?_eq_getElem hlt) hn⟩
    rw [Array.getElem?_append_left (by simpa using hlt)]
    simp [hlt]
  · rcases look_cons hm with ⟨rfl, rfl⟩ | ⟨_, hm⟩
    · rcases hv with ⟨h0, rfl⟩ | ⟨b, cap, xs, h0, _, hb, hlc, hcm, hsz, hw, hc⟩
      · exact .inl ⟨h0, rfl⟩
      · refine .inr ⟨b, cap, xs, h0, Nat.zero_le _, by rw [hOc, h0]; simp [Value.ownBlock], hb, hlc, hcm, hsz, hw, fun i r j d hi hj => ?_⟩
        obtain ⟨x, hx, rfl, h1⟩ := hc i r j d hi hj
        exact ⟨x, hx, .v x, h1⟩
    · rcases look_cons hm with ⟨rfl, rfl⟩ | ⟨_, hm⟩
      · exact fun b _ h => ⟨h, rfl⟩
      · cases hm
  · rintro en w' ⟨v', O', rfl, hos, htp, hout, hk, hv', hlab⟩
    have hsz : w.heap.size ≤ w'.heap.size := by
      rcases hv with ⟨_, h0⟩ | ⟨b, cap, xs, h0, _, hb, _⟩
      · exact absurd h0 hne
      · rcases hv' with ⟨_, h0'⟩ | ⟨b', cap', xs', h0', _, hb', _⟩
        · exact absurd h0' hne'
        · have hl := (Array.getElem?_eq_some_iff.1 hb).1
          have hl' := (Array.getElem?_eq_some_iff.1 hb').1
          by_cases hlast : b = w.heap.size - 1
          · by_cases hbb : b' < w.heap.size
            · by_cases he : b' = b
              · omega
              · have h2 := (hk b' hbb (by rw [hOc]; simp only [h0, Value.ownBlock]; rw [if_neg (by simp; omega)])).1
                have h3 := hlab b' (by rw [h0']; rfl)
                omega
            · omega
          · have h2 := (hk (w.heap.size - 1) (by omega) (by rw [hOc]; simp only [h0, Value.ownBlock]; rw [if_neg (by simp; omega)])).2
            have h3 := h2.trans (Array.getElem?_eq_getElem (show w.heap.size - 1 < w.heap.size by omega))
            have := (Array.getElem?_eq_some_iff.1 h3).1
            omega
    refine ⟨v', rfl, ⟨hos, htp, hout, hsz, fun b hb hne => (hk b hb (by rw [hOc]; simp [hne])).2⟩, hv', ?_⟩
    cases hvb : v'.ownBlock with
    | none => exact .inl hvb
    | some b =>
      by_cases hlt : b < w.heap.size
      · refine .inr (.inl ?_)
        rw [hvb]
        refine (Decidable.byContradiction fun hne => ?_ : v.ownBlock = some b).symm
        have := (hk b hlt (by rw [hOc]; simp [hne])).1
        rw [hlab b hvb] at this
        cases this
      · exact .inr (.inr ⟨b, hvb, by omega⟩)

theorem At.retW {Oc : Nat → Nat} {W : World} {res : Value → Value} {k T : Nat} {rows rows' : List (List D)} {fn : Func} {rs : List ResultVar} {l : List S} (hres : fn.results.toList = rs) (hl : RetL P e M rs l) (hM : look M 0 = some (.own k T rows)) (hK : look M 1000 = some (.fr (frK Oc W))) (hp : plainB rows = true) (hr : rows = rows')
    (hv : ∀ H, valS H 9 (one l) = some (res (H 0))) : At N { W with heap := #[] } O0 e M .ret (bodyPost P fn (RetW Oc W res k T rows')) := by
  subst hr
  intro O H a w hst
  obtain ⟨vs, h1, h2, h3⟩ := hl.run hst
  have hrun : (results fn a.tmps).run P w = .ok (if h : vs.toArray.size = 1 then vs.toArray[0] else .tuple vs.toArray) w := by
    rw [results_rv, Array.mapM_eq_mapM_toList, hres]
    simp only [Sem.run_bind, Sem.run_map, h1, Result.andThen_ok, Sem.run_pure]
  have hrep : RepS O H w (if h : vs.toArray.size = 1 then vs.toArray[0] else .tuple vs.toArray) (one l) := by
    clear hrun hv hl h1
    cases l with
    | nil =>
      cases vs with
      | nil => simpa [one] using RepS.t (O := O) (H := H) (w := w) [] [] rfl h3
      | cons v vs => simp at h2
    | cons s l =>
      cases vs with
      | nil => simp at h2
      | cons v vs =>
        cases l with
        | nil =>
          cases vs with
          | nil => simpa [one] using h3 0 v s rfl rfl
          | cons v2 vs => simp at h2
        | cons s2 l =>
          cases vs with
          | nil => simp at h2
          | cons v2 vs => simpa [one] using RepS.t (O := O) (H := H) (w := w) (v :: v2 :: vs) (s :: s2 :: l) h2 h3
  have hx := valS_rep 9 hrep (hv H)
  have hm := hst.mem 0 _ hM
  refine ⟨hst.df, _, hrun, H 0, O, by rw [hx], hst.bl.os, hst.bl.tape, hst.bl.output, hst.mem 1000 _ hK, (hm.ownVal hp).weak (Nat.zero_le _), fun b hb => (hm.label hb).1⟩
end
end Go.Eng
