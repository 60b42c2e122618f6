/- The engine, part 1: immutable data trees, slot assertions, memory assertions, and how they are kept. The engine, part 2: one operation. -/
import Derived.WalkKit
set_option linter.unusedSimpArgs false
set_option linter.unnecessarySimpa false
namespace Go.Eng
open Go.RowKit (Below)

/-- What one cell holds, seen as data that nobody writes: exactly a value, or a slice whose rows have k cells each. -/
inductive D where
  | v (x : Value)
  | s (k : Nat) (rows : List (List D))

inductive RepD (O : Nat → Nat) (w : World) : Value → D → Prop
  | v (x : Value) : RepD O w x (.v x)
  | e (a : Option Addr) (c k : Nat) (hm : c ≤ maxLen) : RepD O w (.slice a 0 c) (.s k [])
  | s (b off c k : Nat) (rows : List (List D)) (y : Nat → Value) (hc : rows.length ≤ c) (hm : c ≤ maxLen)
      (hw : ∀ r, r ∈ rows → r.length = k)
      (hO : ∀ (i : Nat) (r : List D) (j : Nat) (d : D), rows[i]? = some r → r[j]? = some d → O b = 0)
      (hy : ∀ (i : Nat) (r : List D) (j : Nat) (d : D), rows[i]? = some r → r[j]? = some d → w.cell? ⟨b, off + (i * k + j), none⟩ = some (y (i * k + j)))
      (hr : ∀ (i : Nat) (r : List D) (j : Nat) (d : D), rows[i]? = some r → r[j]? = some d → RepD O w (y (i * k + j)) d) :
      RepD O w (.slice (some ⟨b, off, none⟩) rows.length c) (.s k rows)

/-- Nothing immutable is touched between two worlds. -/
def Keeps (O : Nat → Nat) (w : World) (O' : Nat → Nat) (w' : World) : Prop :=
  ∀ b, b < w.heap.size → O b = 0 → O' b = 0 ∧ w'.heap[b]? = w.heap[b]?

theorem Keeps.cell {O O' : Nat → Nat} {w w' : World} (h : Keeps O w O' w') {a : Addr} {v : Value} (hO : O a.block = 0) (hc : w.cell? a = some v) : w'.cell? a = some v :=
  (World.cell?_of_block (h a.block (World.block_lt_of_cell? w a hc) hO).2).trans hc

theorem RepD.mono {O O' : Nat → Nat} {w w' : World} (h : Keeps O w O' w') {x : Value} {d : D} (hr : RepD O w x d) : RepD O' w' x d := by
  induction hr with
  | v x => exact .v x
  | e a c k hm => exact .e a c k hm
  | s b off c k rows y hc hm hw hO hy hr ih =>
    refine .s b off c k rows y hc hm hw (fun i r j d h1 h2 => ?_) (fun i r j d h1 h2 => ?_) (fun i r j d h1 h2 => ih i r j d h1 h2)
    · exact (h b (World.block_lt_of_cell? w _ (hy i r j d h1 h2)) (hO i r j d h1 h2)).1
    · exact h.cell (hO i r j d h1 h2) (hy i r j d h1 h2)

theorem Keeps.trans {O O' O'' : Nat → Nat} {w w' w'' : World} (h : Keeps O w O' w') (k : Keeps O' w' O'' w'') : Keeps O w O'' w'' := fun b hb hO => by
  obtain ⟨h1, h2⟩ := h b hb hO
  have hb' : b < w'.heap.size := by
    rw [Array.getElem?_eq_getElem hb] at h2
    exact (Array.getElem?_eq_some_iff.1 h2).1
  obtain ⟨h3, h4⟩ := k b hb' h1
  exact ⟨h3, h4.trans h2⟩
/-- Something that is said of a value and of what nobody writes. -/
structure Kr where
  q : (Nat → Nat) → World → Value → Prop
  mono : ∀ (O : Nat → Nat) (w : World) (O' : Nat → Nat) (w' : World) (x : Value), Keeps O w O' w' → q O w x → q O' w' x
/-- What a slot holds. -/
inductive S where
  | d (x : D)
  | g (cs : List S)
  | p (cs : List D)
  | r (h k : Nat)
  | o (h : Nat)
  | q (h k i j : Nat)
  | t (l : List S)
  | f (fn : Nat) (fs cs : List S)
  | c (k : Nat) (rows : List (List D))
  | w (h k lo len : Nat)
  | a (K : Kr)
  | u

inductive RepS (O : Nat → Nat) (H : Nat → Value) (w : World) : Value → S → Prop
  | d (x : Value) (y : D) (h : RepD O w x y) : RepS O H w x (.d y)
  | g (xs : List Value) (ss : List S) (hl : xs.length = ss.length) (h1 : ∀ x, x ∈ xs → x.oneCell' = true)
      (h : ∀ (i : Nat) (x : Value) (s : S), xs[i]? = some x → ss[i]? = some s → RepS O H w x s) : RepS O H w (.agg xs.toArray) (.g ss)
  | p (b off : Nat) (cs : List D) (y : Nat → Value) (hO : ∀ (j : Nat) (d : D), cs[j]? = some d → O b = 0)
      (hy : ∀ (j : Nat) (d : D), cs[j]? = some d → w.cell? ⟨b, off + j, none⟩ = some (y j)) (hr : ∀ (j : Nat) (d : D), cs[j]? = some d → RepD O w (y j) d) :
      RepS O H w (.pointer (some ⟨b, off, none⟩)) (.p cs)
  | r (h b k : Nat) (hH : H h = .pointer (some ⟨b, 0, none⟩)) : RepS O H w (.pointer (some ⟨b, k, none⟩)) (.r h k)
  | o (h : Nat) (h1 : (H h).oneCell' = true) : RepS O H w (H h) (.o h)
  | q (h b k i j len cap : Nat) (hH : H h = .slice (some ⟨b, 0, none⟩) len cap) : RepS O H w (.pointer (some ⟨b, i * k + j, none⟩)) (.q h k i j)
  | t (xs : List Value) (ss : List S) (hl : xs.length = ss.length)
      (h : ∀ (i : Nat) (x : Value) (s : S), xs[i]? = some x → ss[i]? = some s → RepS O H w x s) : RepS O H w (.tuple xs.toArray) (.t ss)
  | f (fn : Nat) (xs ys : List Value) (fs cs : List S) (hl : xs.length = fs.length) (hl' : ys.length = cs.length)
      (h : ∀ (i : Nat) (x : Value) (s : S), xs[i]? = some x → fs[i]? = some s → RepS O H w x s)
      (h' : ∀ (i : Nat) (x : Value) (s : S), ys[i]? = some x → cs[i]? = some s → RepS O H w x s) : RepS O H w (.func (.func fn) xs.toArray ys.toArray) (.f fn fs cs)
  | c (a : Option Addr) (k : Nat) (rows : List (List D)) (h : RepD O w (.slice a rows.length rows.length) (.s k rows)) : RepS O H w (.slice a rows.length rows.length) (.c k rows)
  | w (h b k lo len L C : Nat) (hH : H h = .slice (some ⟨b, 0, none⟩) L C) (hl : lo + len ≤ C) : RepS O H w (.slice (some ⟨b, lo * k, none⟩) len (C - lo)) (.w h k lo len)
  | a (x : Value) (K : Kr) (h : K.q O w x) : RepS O H w x (.a K)
  | u (x : Value) : RepS O H w x .u

/-- Does an assertion leave handle h alone? (n: how deep it is looked into) -/
def S.ok : Nat → Nat → S → Bool
  | 0, _, _ => false
  | n + 1, h, s => match s with
    | .d _ | .p _ | .c _ _ | .a _ | .u => true
    | .r h' _ | .o h' | .q h' _ _ _ | .w h' _ _ _ => !(Nat.beq h' h)
    | .g cs | .t cs => cs.all (S.ok n h)
    | .f _ fs cs => fs.all (S.ok n h) && cs.all (S.ok n h)

structure Keep (hb hh : Option Nat) (O : Nat → Nat) (H : Nat → Value) (w : World) (O' : Nat → Nat) (H' : Nat → Value) (w' : World) : Prop where
  lab : ∀ b, b < w.heap.size → O' b = O b
  hp : ∀ b, b < w.heap.size → (∀ h, hb = some h → O b ≠ h + 1) → w'.heap[b]? = w.heap[b]?
  hd : ∀ h, hh ≠ some h → H' h = H h

theorem Keep.keeps {hb hh : Option Nat} {O O' : Nat → Nat} {H H' : Nat → Value} {w w' : World} (k : Keep hb hh O H w O' H' w') : Keeps O w O' w' :=
  fun b hb hO => ⟨(k.lab b hb).trans hO, k.hp b hb fun h _ => by omega⟩

theorem RepS.mono {hb hh : Option Nat} {O O' : Nat → Nat} {H H' : Nat → Value} {w w' : World} (k : Keep hb hh O H w O' H' w') {x : Value} {s : S} (hr : RepS O H w x s) :
    ∀ n, (∀ h, hh = some h → S.ok n h s = true) → (hh = none ∨ 0 < n) → RepS O' H' w' x s := by
  have hne : ∀ (h' : Nat) (n : Nat), (∀ h, hh = some h → S.ok n h (.o h') = true) → hh ≠ some h' := by
    intro h' n hk he
    have := hk h' he
    cases n <;> simp [S.ok] at this
  induction hr with
  | d x y h => exact fun _ _ _ => .d x y (h.mono k.keeps)
  | g xs ss hl h1 h ih =>
    intro n hk hn
    refine .g xs ss hl h1 fun i x s hx hs => ih i x s hx hs (n - 1) (fun h' he => ?_) ?_
    · have := hk h' he
      cases n with
      | zero => simp [S.ok] at this
      | succ n => simp only [S.ok, List.all_eq_true] at this; exact this s (List.mem_of_getElem? hs)
    · cases hh with
      | none => exact .inl rfl
      | some h' =>
        have := hk h' rfl
        cases n with
        | zero => simp [S.ok] at this
        | succ n =>
          cases n with
          | zero =>
            simp only [S.ok, List.all_eq_true] at this
            have := this s (List.mem_of_getElem? hs)
            simp [S.ok] at this
          | succ n => exact .inr (by omega)
  | p b off cs y hO hy hr =>
    intro _ _ _
    refine .p b off cs y (fun j d hd => ?_) (fun j d hd => ?_) (fun j d hd => (hr j d hd).mono k.keeps)
    · exact (k.keeps b (World.block_lt_of_cell? w _ (hy j d hd)) (hO j d hd)).1
    · exact k.keeps.cell (hO j d hd) (hy j d hd)
  | r h b kk hH =>
    intro n hk _
    refine .r h b kk ((k.hd h (hne h n fun h' he => ?_)).trans hH)
    have := hk h' he
    cases n with
    | zero => simp [S.ok] at this
    | succ n => simpa [S.ok] using this
  | o h h1 =>
    intro n hk _
    have := k.hd h (hne h n hk)
    rw [← this] at h1 ⊢
    exact .o h h1
  | q h b kk i j len cap hH =>
    intro n hk _
    refine .q h b kk i j len cap ((k.hd h (hne h n fun h' he => ?_)).trans hH)
    have := hk h' he
    cases n with
    | zero => simp [S.ok] at this
    | succ n => simpa [S.ok] using this
  | t xs ss hl h ih =>
    intro n hk hn
    refine .t xs ss hl fun i x s hx hs => ih i x s hx hs (n - 1) (fun h' he => ?_) ?_
    · have := hk h' he
      cases n with
      | zero => simp [S.ok] at this
      | succ n => simp only [S.ok, List.all_eq_true] at this; exact this s (List.mem_of_getElem? hs)
    · cases hh with
      | none => exact .inl rfl
      | some h' =>
        have := hk h' rfl
        cases n with
        | zero => simp [S.ok] at this
        | succ n =>
          cases n with
          | zero =>
            simp only [S.ok, List.all_eq_true] at this
            have := this s (List.mem_of_getElem? hs)
            simp [S.ok] at this
          | succ n => exact .inr (by omega)
  | f fn xs ys fs cs hl hl' h h' ih ih' =>
    intro n hk hn
    have key : ∀ s, (s ∈ fs ∨ s ∈ cs) → (∀ h, hh = some h → S.ok (n - 1) h s = true) ∧ (hh = none ∨ 0 < n - 1) := by
      intro s hs
      cases hh with
      | none => exact ⟨fun h he => (by cases he), Or.inl rfl⟩
      | some h' =>
        have := hk h' rfl
        cases n with
        | zero => simp [S.ok] at this
        | succ n =>
          simp only [S.ok, List.all_eq_true, Bool.and_eq_true] at this
          have h2 : S.ok n h' s = true := by exact hs.elim (this.1 s) (this.2 s)
          refine ⟨fun h he => (by cases he; exact h2), Or.inr ?_⟩
          cases n with
          | zero => simp [S.ok] at h2
          | succ n => omega
    exact .f fn xs ys fs cs hl hl' (fun i x s hx hs => ih i x s hx hs (n - 1) (key s (.inl (List.mem_of_getElem? hs))).1 (key s (.inl (List.mem_of_getElem? hs))).2)
      (fun i x s hx hs => ih' i x s hx hs (n - 1) (key s (.inr (List.mem_of_getElem? hs))).1 (key s (.inr (List.mem_of_getElem? hs))).2)
  | c a kk rows h => exact fun _ _ _ => .c a kk rows (h.mono k.keeps)
  | w h b kk lo len L C hH hl =>
    intro n hk _
    refine .w h b kk lo len L C ((k.hd h (hne h n fun h' he => ?_)).trans hH) hl
    have := hk h' he
    cases n with
    | zero => simp [S.ok] at this
    | succ n => simpa [S.ok] using this
  | a x K h => exact fun _ _ _ => .a x K (K.mono _ _ _ _ _ k.keeps h)
  | u x => exact fun _ _ _ => .u x

/-- When no handle changes. -/
theorem RepS.mono0 {hb : Option Nat} {O O' : Nat → Nat} {H H' : Nat → Value} {w w' : World} (k : Keep hb none O H w O' H' w') {x : Value} {s : S} (hr : RepS O H w x s) : RepS O' H' w' x s :=
  hr.mono k 0 (fun _ h => by cases h) (.inl rfl)

/-- The call's own memory: a variable in a block of its own; a slice that the call made and may still write. -/
inductive Mo where
  | box (cs : List S)
  | own (k T : Nat) (rows : List (List D))
  | gone
  | fr (K : Kr)

def MHold (O : Nat → Nat) (H : Nat → Value) (B : Nat) (w : World) (h : Nat) : Mo → Prop
  | .gone => True
  | .fr K => K.q O w undef
  | .box cs => ∃ (b : Nat) (xs : Array Value) (T : Nat), H h = .pointer (some ⟨b, 0, none⟩) ∧ B ≤ b ∧ O b = h + 1 ∧ w.heap[b]? = some (.cells xs T (0, 0)) ∧ xs.size = cs.length ∧
      ∀ (i : Nat) (s : S), cs[i]? = some s → ∃ x, xs[i]? = some x ∧ RepS O H w x s ∧ x.oneCell' = true
  | .own k T rows => (H h = .slice none 0 0 ∧ rows = []) ∨ ∃ (b cap : Nat) (xs : Array Value), H h = .slice (some ⟨b, 0, none⟩) rows.length cap ∧ B ≤ b ∧ O b = h + 1 ∧
      w.heap[b]? = some (.cells xs T (0, 0)) ∧ rows.length ≤ cap ∧ cap ≤ maxLen ∧ xs.size = cap * k ∧ (∀ r, r ∈ rows → r.length = k) ∧
      ∀ (i : Nat) (r : List D) (j : Nat) (d : D), rows[i]? = some r → r[j]? = some d → ∃ x, xs[i * k + j]? = some x ∧ RepD O w x d ∧ x.oneCell' = true

def Mo.ok (n h : Nat) : Mo → Bool
  | .box cs => cs.all (S.ok n h)
  | _ => true

theorem MHold.mono {hb hh : Option Nat} {O O' : Nat → Nat} {H H' : Nat → Value} {B : Nat} {w w' : World} (k : Keep hb hh O H w O' H' w') {h : Nat} {m : Mo} (hm : MHold O H B w h m)
    (h1 : hb ≠ some h) (h2 : hh ≠ some h) (n : Nat) (hk : ∀ h, hh = some h → Mo.ok n h m = true) (hn : hh = none ∨ 0 < n) : MHold O' H' B w' h m := by
  cases m with
  | gone => trivial
  | fr K => exact K.mono _ _ _ _ _ k.keeps hm
  | box cs =>
    obtain ⟨b, xs, T, hH, hB, hO, hb', hs, hc⟩ := hm
    have hlt : b < w.heap.size := (Array.getElem?_eq_some_iff.1 hb').1
    refine ⟨b, xs, T, (k.hd h h2).trans hH, hB, (k.lab b hlt).trans hO, (k.hp b hlt fun h' he => ?_).trans hb', hs, fun i s hi => ?_⟩
    · intro hx; rw [hO] at hx; exact h1 (by rw [he]; congr 1; omega)
    · obtain ⟨x, hx, hr, ho⟩ := hc i s hi
      refine ⟨x, hx, hr.mono k n (fun h' he => ?_) hn, ho⟩
      have := hk h' he
      simp only [Mo.ok, List.all_eq_true] at this
      exact this s (List.mem_of_getElem? hi)
  | own kk T rows =>
    rcases hm with ⟨hH, hr⟩ | ⟨b, cap, xs, hH, hB, hO, hb', hlc, hcm, hs, hw, hc⟩
    · exact .inl ⟨(k.hd h h2).trans hH, hr⟩
    · have hlt : b < w.heap.size := (Array.getElem?_eq_some_iff.1 hb').1
      refine .inr ⟨b, cap, xs, (k.hd h h2).trans hH, hB, (k.lab b hlt).trans hO, (k.hp b hlt fun h' he => ?_).trans hb', hlc, hcm, hs, hw, fun i r j d hi hj => ?_⟩
      · intro hx; rw [hO] at hx; exact h1 (by rw [he]; congr 1; omega)
      · obtain ⟨x, hx, hr, ho⟩ := hc i r j d hi hj
        exact ⟨x, hx, hr.mono k.keeps, ho⟩

def look {α : Type} : List (Nat × α) → Nat → Option α
  | [], _ => none
  | (d, v) :: e, n => bif Nat.beq d n then some v else look e n

abbrev Env := List (Nat × S)
abbrev Mem := List (Nat × Mo)

theorem look_cons_same {α : Type} (d : Nat) (v : α) (e : List (Nat × α)) : look ((d, v) :: e) d = some v := by simp [look]
theorem look_cons {α : Type} {d n : Nat} {v x : α} {e : List (Nat × α)} (h : look ((d, v) :: e) n = some x) : (n = d ∧ x = v) ∨ (n ≠ d ∧ look e n = some x) := by
  simp only [look] at h
  by_cases hd : d = n
  · subst hd; simp at h; exact .inl ⟨rfl, h.symm⟩
  · have : Nat.beq d n = false := by cases hb : Nat.beq d n with
      | false => rfl
      | true => exact (hd (Nat.eq_of_beq_eq_true hb)).elim
    rw [this] at h
    exact .inr ⟨fun e => hd e.symm, h⟩

theorem look_mem {α : Type} {n : Nat} {x : α} : ∀ {e : List (Nat × α)}, look e n = some x → (n, x) ∈ e
  | [], h => by cases h
  | (d, v) :: e, h => by
    rcases look_cons h with ⟨rfl, rfl⟩ | ⟨_, h⟩
    · exact .head _
    · exact .tail _ (look_mem h)

structure St (N : Nat) (w0 : World) (O0 : Nat → Nat) (e : Env) (M : Mem) (O : Nat → Nat) (H : Nat → Value) (a : Act) (w : World) : Prop where
  df : a.defers = []
  sz : a.tmps.size = N
  bl : Below w0.heap.size w0 w
  lab : ∀ b, b < w0.heap.size → O b = O0 b
  slots : ∀ n s, look e n = some s → ∃ x, a.tmps[n]? = some x ∧ RepS O H w x s
  mem : ∀ h m, look M h = some m → MHold O H w0.heap.size w h m

end Go.Eng

set_option linter.unusedSimpArgs false
set_option linter.unnecessarySimpa false
set_option linter.unusedVariables false
namespace Go.Eng
open Go.RowKit (Below)

def opS (e : Env) : Operand → Option S
  | .tmp t => look e t
  | .const v => some (.d (.v v))
  | .func f => some (.f f [] [])
  | .global _ => none

def Slots (a : Act) (O : Nat → Nat) (H : Nat → Value) (w : World) (e : Env) (os : Array Operand) : Prop :=
  ∀ x, x ∈ os → ∀ s, opS e x = some s → RepS O H w (a.eval x) s

def Mems (O : Nat → Nat) (H : Nat → Value) (B : Nat) (w : World) (M : Mem) : Prop := ∀ h m, look M h = some m → MHold O H B w h m

theorem St.slotsAt {N : Nat} {w0 w : World} {O0 : Nat → Nat} {e : Env} {M : Mem} {O : Nat → Nat} {H : Nat → Value} {a : Act} (h : St N w0 O0 e M O H a w) (os : Array Operand) : Slots a O H w e os := by
  intro x _ s hs
  cases x with
  | tmp t =>
    obtain ⟨x, hx, hr⟩ := h.slots t s hs
    simpa [Act.eval, Array.getD_eq_getD_getElem?, hx] using hr
  | const v => simp only [opS, Option.some.injEq] at hs; subst hs; exact .d _ _ (.v v)
  | global g => cases hs
  | func f =>
    simp only [opS, Option.some.injEq] at hs; subst hs
    exact .f f [] [] [] [] rfl rfl (fun i x s h => by simp at h) (fun i x s h => by simp at h)

/-- What one operation that writes nothing old does. -/
def OpSem (P : Program) (B : Nat) (o : Oper) (e : Env) (M : Mem) (s : S) (mo : Option (Nat × Mo)) : Prop :=
  ∀ (O : Nat → Nat) (H : Nat → Value) (a : Act) (w : World), B ≤ w.heap.size → Slots a O H w e o.op.operands → Mems O H B w M →
    ∀ K : Act → World → Prop,
      (∀ (O' : Nat → Nat) (H' : Nat → Value) (w' : World) (x : Value), Keep none (mo.map (·.1)) O H w O' H' w' → Below w.heap.size w w' → RepS O' H' w' x s →
        (∀ h m, mo = some (h, m) → MHold O' H' B w' h m) → K (a.put o.dst x) w') →
      o.wp P a w K (fun _ _ _ => False)

theorem Keep.refl (hb hh : Option Nat) (O : Nat → Nat) (H : Nat → Value) (w : World) : Keep hb hh O H w O H w := ⟨fun _ _ => rfl, fun _ _ _ => rfl, fun _ _ => rfl⟩

/-- An operation that only computes or reads. -/
theorem OpSem.value {P : Program} {B : Nat} {o : Oper} {e : Env} {M : Mem} {s : S}
    (h : ∀ (O : Nat → Nat) (H : Nat → Value) (a : Act) (w : World), Slots a O H w e o.op.operands → Mems O H B w M →
      ∃ x, (execOp a.eval o).run P w = .ok (.value x) w ∧ RepS O H w x s) : OpSem P B o e M s none := by
  intro O H a w hB hs hm K hK
  obtain ⟨x, hx, hr⟩ := h O H a w hs hm
  unfold Oper.wp
  rw [hx]
  exact hK O H w x (.refl _ _ _ _ _) (.refl _ _) hr (fun _ _ h => by cases h)

theorem mem1 (x : Operand) : x ∈ #[x] := by simp
theorem mem21 (x y : Operand) : x ∈ #[x, y] := by simp
theorem mem22 (x y : Operand) : y ∈ #[x, y] := by simp

section
variable {P : Program} {B : Nat} {o : Oper} {e : Env} {M : Mem} {s : S}

theorem OpSem.move {x : Operand} (ho : o.op = .move x ∨ o.op = .assign x) (hx : opS e x = some s) : OpSem P B o e M s none :=
  .value fun O H a w hs _ => by
    rcases ho with ho | ho <;> (refine ⟨a.eval x, ?_, hs x (by simp [ho, Op.operands]) s hx⟩; simp [execOp, ho])

/-- Cells that can be read, one after the other. -/
theorem loadCells_list {w : World} (b off : Nat) (xs : List Value) (h : ∀ (j : Nat) (v : Value), xs[j]? = some v → w.cell? ⟨b, off + j, none⟩ = some v) :
    (loadCells ⟨b, off, none⟩ xs.length).run P w = .ok xs.toArray w :=
  run_loadCells_list w ⟨b, off, none⟩ xs fun j v hv => by rw [Addr.add_lit]; exact h j v hv

/-- How a variable of a type is read: whole (a struct of n cells) or one cell. -/
def vsz (P : Program) (t : TypeId) : Option (Bool × Nat) :=
  match P.info? t, P.underlying t with
  | some i, some d => some ((match d with | .struct _ | .array _ _ => true | _ => false), i.size)
  | _, _ => none

theorem run_isAgg {t : TypeId} {g : Bool} {n : Nat} (h : vsz P t = some (g, n)) (w : World) : (isAgg t).run P w = .ok g w ∧ (sizeOf t).run P w = .ok n w := by
  unfold vsz at h
  cases hi : P.info? t with
  | none => simp [hi] at h
  | some i =>
    cases hu : P.underlying t with
    | none => simp [hi, hu] at h
    | some d =>
      simp only [hi, hu, Option.some.injEq, Prod.mk.injEq] at h
      obtain ⟨h1, h2⟩ := h
      subst h1; subst h2
      constructor
      · cases d <;> simp [isAgg, run_underlying hu]
      · simp [sizeOf, typeInfo, hi]

theorem run_loadVar1 {t : TypeId} {n : Nat} (h : vsz P t = some (false, n)) {w : World} {a : Addr} {v : Value} (hc : w.cell? a = some v) : (loadVar t a).run P w = .ok v w := by
  simp [loadVar, (run_isAgg h w).1, hc]

theorem run_loadVarN {t : TypeId} {xs : List Value} (h : vsz P t = some (true, xs.length)) {w : World} {b off : Nat} (hc : ∀ (j : Nat) (v : Value), xs[j]? = some v → w.cell? ⟨b, off + j, none⟩ = some v) :
    (loadVar t ⟨b, off, none⟩).run P w = .ok (.agg xs.toArray) w := by
  simp [loadVar, (run_isAgg h w).1, (run_isAgg h w).2, loadCells_list b off xs hc]

theorem OpSem.load1 {t : TypeId} {x : Operand} {cs : List D} {d : D} (ho : o.op = .load t x) (hx : opS e x = some (.p cs)) (ht : vsz P t = some (false, 1)) (hd : cs[0]? = some d) :
    OpSem P B o e M (.d d) none :=
  .value fun O H a w hs _ => by
    have hr := hs x (by simp [ho, Op.operands]) _ hx
    generalize hv : a.eval x = v at hr
    cases hr with
    | p b off cs y hO hy hr =>
      have hc := hy 0 d hd
      refine ⟨y 0, ?_, .d _ _ (hr 0 d hd)⟩
      simp only [Nat.add_zero] at hc
      simp [execOp, ho, Instr.loadAt, Instr.sureAddr, hv, run_loadVar1 ht hc]

theorem RepD.one {O : Nat → Nat} {w : World} {x : Value} {d : D} (h : RepD O w x d) : (match d with | .v y => y.oneCell' | .s _ _ => true) = true → x.oneCell' = true := by
  cases h <;> simp [Value.oneCell']

def D.one : D → Bool | .v y => y.oneCell' | .s _ _ => true
theorem RepD.one' {O : Nat → Nat} {w : World} {x : Value} {d : D} (h : RepD O w x d) (hd : d.one = true) : x.oneCell' = true := by
  cases h <;> simp_all [Value.oneCell', D.one]

/-- A whole struct read through a pointer. -/
theorem OpSem.loadN {t : TypeId} {x : Operand} {cs : List D} {n : Nat} (ho : o.op = .load t x) (hx : opS e x = some (.p cs)) (ht : vsz P t = some (true, n)) (hn : n ≤ cs.length)
    (h1 : (cs.take n).all D.one = true) : OpSem P B o e M (.g ((cs.take n).map .d)) none :=
  .value fun O H a w hs _ => by
    have hr := hs x (by simp [ho, Op.operands]) _ hx
    generalize hv : a.eval x = v at hr
    cases hr with
    | p b off cs y hO hy hr =>
      have hcell : ∀ (j : Nat) (v : Value), ((List.range n).map y)[j]? = some v → w.cell? ⟨b, off + j, none⟩ = some v := by
        intro j v hj
        simp only [List.getElem?_map, Option.map_eq_some_iff] at hj
        obtain ⟨j', hj', rfl⟩ := hj
        have hlt : j < n := by have := (List.getElem?_eq_some_iff.1 hj').1; simpa using this
        have : j' = j := by simpa [hlt] using hj'.symm
        subst this
        exact hy j' _ (List.getElem?_eq_getElem (by omega))
      refine ⟨.agg ((List.range n).map y).toArray, ?_, .g _ _ (by simp [hn]) (fun z hz => ?_) (fun i z s hz hs => ?_)⟩
      · have := run_loadVarN (P := P) (t := t) (xs := (List.range n).map y) (by simpa using ht) hcell
        simp [execOp, ho, Instr.loadAt, Instr.sureAddr, hv] at this ⊢
        simp [this]
      · simp only [List.mem_map, List.mem_range] at hz
        obtain ⟨j, hj, rfl⟩ := hz
        have hd := List.getElem?_eq_getElem (l := cs) (i := j) (by omega)
        refine (hr j _ hd).one' ?_
        rw [List.all_eq_true] at h1
        exact h1 _ (List.mem_take_iff_getElem.2 ⟨j, by omega, rfl⟩)
      · simp only [List.getElem?_map, Option.map_eq_some_iff] at hz hs
        obtain ⟨j, hj, rfl⟩ := hz
        obtain ⟨d, hd, rfl⟩ := hs
        have hlt : i < n := by have := (List.getElem?_eq_some_iff.1 hj).1; simpa using this
        have : j = i := by simpa [hlt] using hj.symm
        subst this
        rw [List.getElem?_take_of_lt hlt] at hd
        exact .d _ _ (hr j d hd)

theorem cellOf {w : World} {b : Nat} {xs : Array Value} {T i : Nat} {x : Value} {fz : Nat × Nat} (hb : w.heap[b]? = some (.cells xs T fz)) (hx : xs[i]? = some x) : w.cell? ⟨b, i, none⟩ = some x := by
  simp [World.cell?, hb, hx]

/-- A variable of the call's own, read. -/
theorem OpSem.loadb1 {t : TypeId} {x : Operand} {h k : Nat} {cs : List S} {s : S} (ho : o.op = .load t x) (hx : opS e x = some (.r h k)) (hM : look M h = some (.box cs)) (ht : vsz P t = some (false, 1))
    (hd : cs[k]? = some s) : OpSem P B o e M s none :=
  .value fun O H a w hs hm => by
    have hr := hs x (by simp [ho, Op.operands]) _ hx
    obtain ⟨b, xs, T, hH, _, _, hb, _, hc⟩ := hm h _ hM
    generalize hv : a.eval x = v at hr
    cases hr with
    | r h b' k hH' =>
      rw [hH] at hH'
      simp only [Value.pointer.injEq, Option.some.injEq, Addr.mk.injEq, and_true] at hH'
      subst hH'
      obtain ⟨y, hy, hr, _⟩ := hc k s hd
      exact ⟨y, by simp [execOp, ho, Instr.loadAt, Instr.sureAddr, hv, run_loadVar1 ht (cellOf hb hy)], hr⟩

theorem OpSem.loadbN {t : TypeId} {x : Operand} {h k n : Nat} {cs : List S} (ho : o.op = .load t x) (hx : opS e x = some (.r h k)) (hM : look M h = some (.box cs)) (ht : vsz P t = some (true, n))
    (hn : k + n ≤ cs.length) : OpSem P B o e M (.g ((cs.drop k).take n)) none :=
  .value fun O H a w hs hm => by
    have hr := hs x (by simp [ho, Op.operands]) _ hx
    obtain ⟨b, xs, T, hH, _, _, hb, hsz, hc⟩ := hm h _ hM
    generalize hv : a.eval x = v at hr
    cases hr with
    | r h b' k hH' =>
      rw [hH] at hH'
      simp only [Value.pointer.injEq, Option.some.injEq, Addr.mk.injEq, and_true] at hH'
      subst hH'
      have hl : ((xs.toList.drop k).take n).length = n := by simp; omega
      refine ⟨.agg ((xs.toList.drop k).take n).toArray, ?_, .g _ _ (by simp; omega) (fun z hz => ?_) (fun i z s hz hs => ?_)⟩
      · have := run_loadVarN (P := P) (t := t) (xs := (xs.toList.drop k).take n) (by rw [hl]; exact ht) (w := w) (b := b) (off := k) (fun j v hj => by
          have hjn : j < n := by have := (List.getElem?_eq_some_iff.1 hj).1; omega
          rw [List.getElem?_take_of_lt hjn, List.getElem?_drop] at hj
          exact cellOf hb (by simpa using hj))
        simp only [execOp, ho, Instr.loadAt, Instr.sureAddr, hv]
        simp only [Sem.run_bind, Sem.run_pure, Result.andThen_ok, this]
      · obtain ⟨j, hj⟩ := List.getElem?_of_mem hz
        have hjn : j < n := by have := (List.getElem?_eq_some_iff.1 hj).1; omega
        rw [List.getElem?_take_of_lt hjn, List.getElem?_drop] at hj
        obtain ⟨y, hy, _, h1⟩ := hc (k + j) _ (List.getElem?_eq_getElem (by omega))
        have : z = y := by simpa [hy] using hj.symm
        rw [this]; exact h1
      · have hjn : i < n := by have := (List.getElem?_eq_some_iff.1 hz).1; omega
        rw [List.getElem?_take_of_lt hjn, List.getElem?_drop] at hz hs
        obtain ⟨y, hy, hr, _⟩ := hc (k + i) _ hs
        have : z = y := by simpa [hy] using hz.symm
        rw [this]; exact hr

/-- A cell of the call's own slice, read. -/
theorem OpSem.loadq {t : TypeId} {x : Operand} {h k T i j : Nat} {rows : List (List D)} {r : List D} {d : D} (ho : o.op = .load t x) (hx : opS e x = some (.q h k i j)) (hM : look M h = some (.own k T rows))
    (ht : vsz P t = some (false, 1)) (hi : rows[i]? = some r) (hj : r[j]? = some d) : OpSem P B o e M (.d d) none :=
  .value fun O H a w hs hm => by
    have hr := hs x (by simp [ho, Op.operands]) _ hx
    generalize hv : a.eval x = v at hr
    cases hr with
    | q h b k i j len cap hH =>
      rcases hm h _ hM with ⟨h0, _⟩ | ⟨b', cap', xs, hH', _, _, hb, _, _, _, _, hc⟩
      · rw [h0] at hH; cases hH
      · rw [hH] at hH'
        simp only [Value.slice.injEq, Option.some.injEq, Addr.mk.injEq, and_true] at hH'
        obtain ⟨rfl, _, _⟩ := hH'
        obtain ⟨y, hy, hr, _⟩ := hc i r j d hi hj
        exact ⟨y, by simp [execOp, ho, Instr.loadAt, Instr.sureAddr, hv, run_loadVar1 ht (cellOf hb hy)], .d _ _ hr⟩

/-- Where a field lies. -/
def fof (P : Program) (t : TypeId) (k : Nat) : Option Nat :=
  match P.underlying t with
  | some (.struct fs) => match fs[k]? with
    | some f => match P.info? f.type with
      | some i => if i.size = 0 then none else some f.offset
      | none => none
    | none => none
  | _ => none

theorem run_fieldAt {t k n b off : Nat} (h : fof P t k = some n) (w : World) : (Instr.fieldAt t (.pointer (some ⟨b, off, none⟩)) k).run P w = .ok (.pointer (some ⟨b, off + n, none⟩)) w := by
  unfold fof at h
  cases hu : P.underlying t with
  | none => simp [hu] at h
  | some d =>
    cases d <;> simp only [hu] at h <;> try (cases h; done)
    case struct fs =>
      cases hf : fs[k]? with
      | none => simp [hf] at h
      | some f =>
        cases hi : P.info? f.type with
        | none => simp [hf, hi] at h
        | some i =>
          simp only [hf, hi] at h
          split at h
          · cases h
          · rename_i hz
            simp only [Option.some.injEq] at h
            subst h
            simp [Instr.fieldAt, run_underlying hu, hf, Instr.sureAddr, fieldPlace, sizeOf, typeInfo, hi, hz, Addr.add_lit]

theorem OpSem.fieldp {t k n : Nat} {x : Operand} {cs : List D} (ho : o.op = .fieldAddr t x k) (hx : opS e x = some (.p cs)) (ht : fof P t k = some n) : OpSem P B o e M (.p (cs.drop n)) none :=
  .value fun O H a w hs _ => by
    have hr := hs x (by simp [ho, Op.operands]) _ hx
    generalize hv : a.eval x = v at hr
    cases hr with
    | p b off cs y hO hy hr =>
      refine ⟨.pointer (some ⟨b, off + n, none⟩), by simp [execOp, ho, hv, run_fieldAt ht], .p b (off + n) _ (fun j => y (n + j)) (fun j d hd => ?_) (fun j d hd => ?_) (fun j d hd => ?_)⟩
      · rw [List.getElem?_drop] at hd; exact hO _ d hd
      · rw [List.getElem?_drop] at hd; rw [Nat.add_assoc]; exact hy _ d hd
      · rw [List.getElem?_drop] at hd; exact hr _ d hd

theorem OpSem.fieldr {t k n h m : Nat} {x : Operand} (ho : o.op = .fieldAddr t x k) (hx : opS e x = some (.r h m)) (ht : fof P t k = some n) : OpSem P B o e M (.r h (m + n)) none :=
  .value fun O H a w hs _ => by
    have hr := hs x (by simp [ho, Op.operands]) _ hx
    generalize hv : a.eval x = v at hr
    cases hr with
    | r h b m hH => exact ⟨.pointer (some ⟨b, m + n, none⟩), by simp [execOp, ho, hv, run_fieldAt ht], .r h b _ hH⟩

theorem OpSem.fieldq {t k n h kk i j : Nat} {x : Operand} (ho : o.op = .fieldAddr t x k) (hx : opS e x = some (.q h kk i j)) (ht : fof P t k = some n) : OpSem P B o e M (.q h kk i (j + n)) none :=
  .value fun O H a w hs _ => by
    have hr := hs x (by simp [ho, Op.operands]) _ hx
    generalize hv : a.eval x = v at hr
    cases hr with
    | q h b kk i j len cap hH =>
      exact ⟨.pointer (some ⟨b, i * kk + (j + n), none⟩), by simp [execOp, ho, hv, run_fieldAt ht, Nat.add_assoc], .q h b kk i (j + n) len cap hH⟩

/-- The width of a slice type's elements. -/
def esz (P : Program) (t : TypeId) : Option Nat :=
  match P.underlying t with
  | some (.slice e) => (P.info? e).map (·.size)
  | _ => none

theorem esz_spec {t k : Nat} (h : esz P t = some k) : P.underlying t = some (.slice (P.elem t)) ∧ ∃ i, P.info? (P.elem t) = some i ∧ i.size = k := by
  unfold esz at h
  cases hu : P.underlying t with
  | none => simp [hu] at h
  | some d =>
    cases d <;> simp only [hu] at h <;> try (cases h; done)
    case slice e =>
      have he : P.elem t = e := by simp [Program.elem, hu]
      rw [he]
      cases hi : P.info? e with
      | none => simp [hi] at h
      | some i => exact ⟨rfl, i, rfl, by simpa [hi] using h⟩

theorem run_idx {t k b off len cap : Nat} {kk : IntKind} {n : Int} (h : esz P t = some k) (h0 : 0 ≤ n) (h1 : n < len) (w : World) :
    (Instr.indexAt t (.slice (some ⟨b, off, none⟩) len cap) (.int kk n)).run P w = .ok (.pointer (some ⟨b, off + n.toNat * k, none⟩)) w := by
  obtain ⟨hu, i, hi, rfl⟩ := esz_spec h
  rw [run_indexAt_slice w t _ len cap kk n hu, if_pos ⟨h0, h1⟩]
  simp [sizeOf, typeInfo, hi, Addr.add_lit]

/-- An element's place in a slice that nobody writes. -/
theorem OpSem.idx {t k : Nat} {x i : Operand} {rows : List (List D)} {kk : IntKind} {n : Int} {r : List D} (ho : o.op = .indexAddr t x i) (hx : opS e x = some (.d (.s k rows))) (hi : opS e i = some (.d (.v (.int kk n))))
    (ht : esz P t = some k) (h0 : 0 ≤ n) (hr : rows[n.toNat]? = some r) : OpSem P B o e M (.p r) none :=
  .value fun O H a w hs _ => by
    have hx' := hs x (by simp [ho, Op.operands]) _ hx
    have hi' := hs i (by simp [ho, Op.operands]) _ hi
    have hlt : n.toNat < rows.length := (List.getElem?_eq_some_iff.1 hr).1
    generalize hv : a.eval x = v at hx'
    generalize hu : a.eval i = u at hi'
    cases hi' with
    | d _ _ hi' =>
      cases hi' with
      | v _ =>
        cases hx' with
        | d _ _ hx' =>
          cases hx' with
          | e a' c k hm => simp at hlt
          | s b off c k rows y hc hm hw hO hy hrep =>
            have hl : r.length = k := hw r (List.mem_of_getElem? hr)
            refine ⟨.pointer (some ⟨b, off + n.toNat * k, none⟩), by simp [execOp, ho, hv, hu, run_idx ht h0 (by omega : n < (rows.length : Int))],
              .p b _ r (fun j => y (n.toNat * k + j)) (fun j d hd => hO _ _ _ _ hr hd) (fun j d hd => ?_) (fun j d hd => hrep _ _ _ _ hr hd)⟩
            rw [Nat.add_assoc]; exact hy _ _ _ _ hr hd

def nth {α : Type} [Inhabited α] (l : List α) (n : Int) : α := l.getD n.toNat default

theorem OpSem.idxL {t k : Nat} {x i : Operand} {kk : IntKind} {n : Int} {α : Type} [Inhabited α] {l : List α} {f : α → List D} (ho : o.op = .indexAddr t x i) (hx : opS e x = some (.d (.s k (l.map f)))) (hi : opS e i = some (.d (.v (.int kk n))))
    (ht : esz P t = some k) (h0 : 0 ≤ n) (h1 : n < l.length) : OpSem P B o e M (.p (f (nth l n))) none :=
  OpSem.idx ho hx hi ht h0 (by
    have : n.toNat < l.length := by omega
    simp [nth, this])

/-- An element's place in a slice of the call's own. -/
theorem OpSem.idxo {t k T h : Nat} {x i : Operand} {rows : List (List D)} {kk : IntKind} {n : Int} (ho : o.op = .indexAddr t x i) (hx : opS e x = some (.o h)) (hM : look M h = some (.own k T rows)) (hi : opS e i = some (.d (.v (.int kk n))))
    (ht : esz P t = some k) (h0 : 0 ≤ n) (h1 : n.toNat < rows.length) : OpSem P B o e M (.q h k n.toNat 0) none :=
  .value fun O H a w hs hm => by
    have hx' := hs x (by simp [ho, Op.operands]) _ hx
    have hi' := hs i (by simp [ho, Op.operands]) _ hi
    generalize hv : a.eval x = v at hx'
    generalize hu : a.eval i = u at hi'
    cases hi' with
    | d _ _ hi' =>
      cases hi' with
      | v _ =>
        cases hx' with
        | o h _ =>
          rcases hm h _ hM with ⟨_, h2⟩ | ⟨b', cap', xs, hH', _⟩
          · subst h2; simp at h1
          · refine ⟨.pointer (some ⟨b', n.toNat * k + 0, none⟩), ?_, .q h b' k n.toNat 0 _ _ hH'⟩
            rw [hH'] at hv
            simp [execOp, ho, hv, hu, run_idx ht h0 (by omega : n < (rows.length : Int))]

/-- Numbers: what comes out, at its kind. -/
theorem OpSem.bin {op : BinOp} {t u : TypeId} {x y : Operand} {k : IntKind} {m n : Int} {z : Value} (ho : o.op = .binOp op t x y u) (hx : opS e x = some (.d (.v (.int k m)))) (hy : opS e y = some (.d (.v (.int k n))))
    (hz : binOp op t (.int k m) (.int k n) = pure z) : OpSem P B o e M (.d (.v z)) none :=
  .value fun O H a w hs _ => by
    have hx' := hs x (by simp [ho, Op.operands]) _ hx
    have hy' := hs y (by simp [ho, Op.operands]) _ hy
    generalize hv : a.eval x = v at hx'
    generalize hu : a.eval y = u at hy'
    cases hx' with
    | d _ _ hx' => cases hx' with
      | v _ => cases hy' with
        | d _ _ hy' => cases hy' with
          | v _ => exact ⟨z, by simp [execOp, ho, hv, hu, eqGuard_at_int, hz], .d _ _ (.v z)⟩

theorem OpSem.not {t : TypeId} {x : Operand} {b : Bool} (ho : o.op = .unOp .not t x) (hx : opS e x = some (.d (.v (.bool b)))) : OpSem P B o e M (.d (.v (.bool !b))) none :=
  .value fun O H a w hs _ => by
    have hx' := hs x (by simp [ho, Op.operands]) _ hx
    generalize hv : a.eval x = v at hx'
    cases hx' with
    | d _ _ hx' => cases hx' with
      | v _ => exact ⟨_, by simp [execOp, ho, hv, Op.unary], .d _ _ (.v _)⟩

theorem OpSem.neg {t : TypeId} {x : Operand} {n : Int} (ho : o.op = .unOp .neg t x) (hx : opS e x = some (.d (.v (.int .i64 n)))) (hn : IntKind.i64.wrap (0 - n) = -n) : OpSem P B o e M (.d (.v (.int .i64 (-n)))) none :=
  .value fun O H a w hs _ => by
    have hx' := hs x (by simp [ho, Op.operands]) _ hx
    generalize hv : a.eval x = v at hx'
    cases hx' with
    | d _ _ hx' => cases hx' with
      | v _ => exact ⟨.int .i64 (-n), by simp only [execOp, ho, hv, Op.unary, Op.intArith, hn]; simp, .d _ _ (.v _)⟩

theorem OpSem.pickT {c x y : Operand} {b : Bool} (ho : o.op = .pick c x y) (hc : opS e c = some (.d (.v (.bool b)))) (hb : b = true) (hx : opS e x = some s) : OpSem P B o e M s none :=
  .value fun O H a w hs _ => by
    have hc' := hs c (by simp [ho, Op.operands]) _ hc
    generalize hv : a.eval c = v at hc'
    cases hc' with
    | d _ _ hc' => cases hc' with
      | v _ => subst hb; exact ⟨a.eval x, by simp [execOp, ho, hv, asBool], hs x (by simp [ho, Op.operands]) _ hx⟩
theorem OpSem.pickF {c x y : Operand} {b : Bool} (ho : o.op = .pick c x y) (hc : opS e c = some (.d (.v (.bool b)))) (hb : b = false) (hy : opS e y = some s) : OpSem P B o e M s none :=
  .value fun O H a w hs _ => by
    have hc' := hs c (by simp [ho, Op.operands]) _ hc
    generalize hv : a.eval c = v at hc'
    cases hc' with
    | d _ _ hc' => cases hc' with
      | v _ => subst hb; exact ⟨a.eval y, by simp [execOp, ho, hv, asBool], hs y (by simp [ho, Op.operands]) _ hy⟩

theorem RepD.slice {O : Nat → Nat} {w : World} {x : Value} {k : Nat} {rows : List (List D)} (h : RepD O w x (.s k rows)) : ∃ a c, x = .slice a rows.length c ∧ rows.length ≤ c ∧ c ≤ maxLen := by
  cases h with
  | e a c k hm => exact ⟨a, c, rfl, by simp, hm⟩
  | s b off c k rows y hc hm => exact ⟨_, c, rfl, hc, hm⟩

theorem OpSem.lenL {x : Operand} {t k : Nat} {α : Type} {l : List α} {f : α → List D} (ho : o.op = .call { callee := .builtin .len, args := #[x], argTypes := #[t] }) (hx : opS e x = some (.d (.s k (l.map f)))) (ht : esz P t = some k) :
    OpSem P B o e M (.d (.v (.int .i64 l.length))) none :=
  .value fun O H a w hs _ => by
    have hx' := hs x (by simp [ho, Op.operands, Call.operands]) _ hx
    generalize hv : a.eval x = v at hx'
    cases hx' with
    | d _ _ hx' =>
      obtain ⟨a', c, rfl, _⟩ := hx'.slice
      exact ⟨_, by simp [execOp, ho, resolve, invoke, builtin, hv, run_len_slice w t _ _ _ _ (esz_spec ht).1, goInt], .d _ _ (.v _)⟩

theorem OpSem.len {x : Operand} {t k : Nat} {rows : List (List D)} (ho : o.op = .call { callee := .builtin .len, args := #[x], argTypes := #[t] }) (hx : opS e x = some (.d (.s k rows))) (ht : esz P t = some k) :
    OpSem P B o e M (.d (.v (.int .i64 rows.length))) none :=
  .value fun O H a w hs _ => by
    have hx' := hs x (by simp [ho, Op.operands, Call.operands]) _ hx
    generalize hv : a.eval x = v at hx'
    cases hx' with
    | d _ _ hx' =>
      obtain ⟨a', c, rfl, _⟩ := hx'.slice
      exact ⟨_, by simp [execOp, ho, resolve, invoke, builtin, hv, run_len_slice w t _ _ _ _ (esz_spec ht).1, goInt], .d _ _ (.v _)⟩

theorem OpSem.leno {x : Operand} {t k T h : Nat} {rows : List (List D)} (ho : o.op = .call { callee := .builtin .len, args := #[x], argTypes := #[t] }) (hx : opS e x = some (.o h)) (hM : look M h = some (.own k T rows)) (ht : esz P t = some k) :
    OpSem P B o e M (.d (.v (.int .i64 rows.length))) none :=
  .value fun O H a w hs hm => by
    have hx' := hs x (by simp [ho, Op.operands, Call.operands]) _ hx
    generalize hv : a.eval x = v at hx'
    cases hx' with
    | o h _ =>
      rcases hm h _ hM with ⟨h0, rfl⟩ | ⟨b', cap', xs, hH', _⟩
      · rw [h0] at hv
        exact ⟨_, by simp [execOp, ho, resolve, invoke, builtin, hv, run_len_slice w t _ _ _ _ (esz_spec ht).1, goInt], .d _ _ (.v _)⟩
      · rw [hH'] at hv
        exact ⟨_, by simp [execOp, ho, resolve, invoke, builtin, hv, run_len_slice w t _ _ _ _ (esz_spec ht).1, goInt], .d _ _ (.v _)⟩

theorem OpSem.extract {x : Operand} {n : Nat} {l : List S} (ho : o.op = .extract x n) (hx : opS e x = some (.t l)) (hn : l[n]? = some s) : OpSem P B o e M s none :=
  .value fun O H a w hs _ => by
    have hx' := hs x (by simp [ho, Op.operands]) _ hx
    generalize hv : a.eval x = v at hx'
    cases hx' with
    | t xs ss hl h =>
      have hlt : n < xs.length := by rw [hl]; exact (List.getElem?_eq_some_iff.1 hn).1
      refine ⟨xs[n], ?_, h n _ _ (List.getElem?_eq_getElem hlt) hn⟩
      simp [execOp, ho, hv, Instr.extract, hlt]
end
end Go.Eng
