/- The engine, part 1: immutable data trees, slot assertions, memory assertions, and how they are kept. -/
import Derived.WalkKit
set_option linter.unusedSimpArgs false
set_option linter.unnecessarySimpa false
namespace Go.Eng
open Go.RowKit (Below)

/-- What one cell holds, seen as data that nobody writes: exactly a value, or a slice whose rows have k cells each. -/
inductive D where
  | v (x : Value)
  | s (k : Nat) (rows : List (List D))

inductive RepD (O : Nat → Nat) (w : World) : Value → D → Prop
  | v (x : Value) : RepD O w x (.v x)
  | e (a : Option Addr) (c k : Nat) (hm : c ≤ maxLen) : RepD O w (.slice a 0 c) (.s k [])
  | s (b off c k : Nat) (rows : List (List D)) (y : Nat → Value) (hc : rows.length ≤ c) (hm : c ≤ maxLen)
      (hw : ∀ r, r ∈ rows → r.length = k)
      (hO : ∀ (i : Nat) (r : List D) (j : Nat) (d : D), rows[i]? = some r → r[j]? = some d → O b = 0)
      (hy : ∀ (i : Nat) (r : List D) (j : Nat) (d : D), rows[i]? = some r → r[j]? = some d → w.cell? ⟨b, off + (i * k + j), none⟩ = some (y (i * k + j)))
      (hr : ∀ (i : Nat) (r : List D) (j : Nat) (d : D), rows[i]? = some r → r[j]? = some d → RepD O w (y (i * k + j)) d) :
      RepD O w (.slice (some ⟨b, off, none⟩) rows.length c) (.s k rows)

/-- Nothing immutable is touched between two worlds. -/
def Keeps (O : Nat → Nat) (w : World) (O' : Nat → Nat) (w' : World) : Prop :=
  ∀ b, b < w.heap.size → O b = 0 → O' b = 0 ∧ w'.heap[b]? = w.heap[b]?

theorem Keeps.cell {O O' : Nat → Nat} {w w' : World} (h : Keeps O w O' w') {a : Addr} {v : Value} (hO : O a.block = 0) (hc : w.cell? a = some v) : w'.cell? a = some v :=
  (World.cell?_of_block (h a.block (World.block_lt_of_cell? w a hc) hO).2).trans hc

theorem RepD.mono {O O' : Nat → Nat} {w w' : World} (h : Keeps O w O' w') {x : Value} {d : D} (hr : RepD O w x d) : RepD O' w' x d := by
  induction hr with
  | v x => exact .v x
  | e a c k hm => exact .e a c k hm
  | s b off c k rows y hc hm hw hO hy hr ih =>
    refine .s b off c k rows y hc hm hw (fun i r j d h1 h2 => ?_) (fun i r j d h1 h2 => ?_) (fun i r j d h1 h2 => ih i r j d h1 h2)
    · exact (h b (World.block_lt_of_cell? w _ (hy i r j d h1 h2)) (hO i r j d h1 h2)).1
    · exact h.cell (hO i r j d h1 h2) (hy i r j d h1 h2)

theorem Keeps.trans {O O' O'' : Nat → Nat} {w w' w'' : World} (h : Keeps O w O' w') (k : Keeps O' w' O'' w'') : Keeps O w O'' w'' := fun b hb hO => by
  obtain ⟨h1, h2⟩ := h b hb hO
  have hb' : b < w'.heap.size := by
    rw [Array.getElem?_eq_getElem hb] at h2
    exact (Array.getElem?_eq_some_iff.1 h2).1
  obtain ⟨h3, h4⟩ := k b hb' h1
  exact ⟨h3, h4.trans h2⟩
/-- Something that is said of a value and of what nobody writes. -/
structure Kr where
  q : (Nat → Nat) → World → Value → Prop
  mono : ∀ (O : Nat → Nat) (w : World) (O' : Nat → Nat) (w' : World) (x : Value), Keeps O w O' w' → q O w x → q O' w' x
/-- What a slot holds. -/
inductive S where
  | d (x : D)
  | g (cs : List S)
  | p (cs : List D)
  | r (h k : Nat)
  | o (h : Nat)
  | q (h k i j : Nat)
  | t (l : List S)
  | f (fn : Nat) (fs cs : List S)
  | c (k : Nat) (rows : List (List D))
  | w (h k lo len : Nat)
  | a (K : Kr)
  | u

inductive RepS (O : Nat → Nat) (H : Nat → Value) (w : World) : Value → S → Prop
  | d (x : Value) (y : D) (h : RepD O w x y) : RepS O H w x (.d y)
  | g (xs : List Value) (ss : List S) (hl : xs.length = ss.length) (h1 : ∀ x, x ∈ xs → x.oneCell' = true)
      (h : ∀ (i : Nat) (x : Value) (s : S), xs[i]? = some x → ss[i]? = some s → RepS O H w x s) : RepS O H w (.agg xs.toArray) (.g ss)
  | p (b off : Nat) (cs : List D) (y : Nat → Value) (hO : ∀ (j : Nat) (d : D), cs[j]? = some d → O b = 0)
      (hy : ∀ (j : Nat) (d : D), cs[j]? = some d → w.cell? ⟨b, off + j, none⟩ = some (y j)) (hr : ∀ (j : Nat) (d : D), cs[j]? = some d → RepD O w (y j) d) :
      RepS O H w (.pointer (some ⟨b, off, none⟩)) (.p cs)
  | r (h b k : Nat) (hH : H h = .pointer (some ⟨b, 0, none⟩)) : RepS O H w (.pointer (some ⟨b, k, none⟩)) (.r h k)
  | o (h : Nat) (h1 : (H h).oneCell' = true) : RepS O H w (H h) (.o h)
  | q (h b k i j len cap : Nat) (hH : H h = .slice (some ⟨b, 0, none⟩) len cap) : RepS O H w (.pointer (some ⟨b, i * k + j, none⟩)) (.q h k i j)
  | t (xs : List Value) (ss : List S) (hl : xs.length = ss.length)
      (h : ∀ (i : Nat) (x : Value) (s : S), xs[i]? = some x → ss[i]? = some s → RepS O H w x s) : RepS O H w (.tuple xs.toArray) (.t ss)
  | f (fn : Nat) (xs ys : List Value) (fs cs : List S) (hl : xs.length = fs.length) (hl' : ys.length = cs.length)
      (h : ∀ (i : Nat) (x : Value) (s : S), xs[i]? = some x → fs[i]? = some s → RepS O H w x s)
      (h' : ∀ (i : Nat) (x : Value) (s : S), ys[i]? = some x → cs[i]? = some s → RepS O H w x s) : RepS O H w (.func (.func fn) xs.toArray ys.toArray) (.f fn fs cs)
  | c (a : Option Addr) (k : Nat) (rows : List (List D)) (h : RepD O w (.slice a rows.length rows.length) (.s k rows)) : RepS O H w (.slice a rows.length rows.length) (.c k rows)
  | w (h b k lo len L C : Nat) (hH : H h = .slice (some ⟨b, 0, none⟩) L C) (hl : lo + len ≤ C) : RepS O H w (.slice (some ⟨b, lo * k, none⟩) len (C - lo)) (.w h k lo len)
  | a (x : Value) (K : Kr) (h : K.q O w x) : RepS O H w x (.a K)
  | u (x : Value) : RepS O H w x .u

/-- Does an assertion leave handle h alone? (n: how deep it is looked into) -/
def S.ok : Nat → Nat → S → Bool
  | 0, _, _ => false
  | n + 1, h, s => match s with
    | .d _ | .p _ | .c _ _ | .a _ | .u => true
    | .r h' _ | .o h' | .q h' _ _ _ | .w h' _ _ _ => !(Nat.beq h' h)
    | .g cs | .t cs => cs.all (S.ok n h)
    | .f _ fs cs => fs.all (S.ok n h) && cs.all (S.ok n h)

structure Keep (hb hh : Option Nat) (O : Nat → Nat) (H : Nat → Value) (w : World) (O' : Nat → Nat) (H' : Nat → Value) (w' : World) : Prop where
  lab : ∀ b, b < w.heap.size → O' b = O b
  hp : ∀ b, b < w.heap.size → (∀ h, hb = some h → O b ≠ h + 1) → w'.heap[b]? = w.heap[b]?
  hd : ∀ h, hh ≠ some h → H' h = H h

theorem Keep.keeps {hb hh : Option Nat} {O O' : Nat → Nat} {H H' : Nat → Value} {w w' : World} (k : Keep hb hh O H w O' H' w') : Keeps O w O' w' :=
  fun b hb hO => ⟨(k.lab b hb).trans hO, k.hp b hb fun h _ => by omega⟩

theorem RepS.mono {hb hh : Option Nat} {O O' : Nat → Nat} {H H' : Nat → Value} {w w' : World} (k : Keep hb hh O H w O' H' w') {x : Value} {s : S} (hr : RepS O H w x s) :
    ∀ n, (∀ h, hh = some h → S.ok n h s = true) → (hh = none ∨ 0 < n) → RepS O' H' w' x s := by
  have hne : ∀ (h' : Nat) (n : Nat), (∀ h, hh = some h → S.ok n h (.o h') = true) → hh ≠ some h' := by
    intro h' n hk he
    have := hk h' he
    cases n <;> simp [S.ok] at this
  induction hr with
  | d x y h => exact fun _ _ _ => .d x y (h.mono k.keeps)
  | g xs ss hl h1 h ih =>
    intro n hk hn
    refine .g xs ss hl h1 fun i x s hx hs => ih i x s hx hs (n - 1) (fun h' he => ?_) ?_
    · have := hk h' he
      cases n with
      | zero => simp [S.ok] at this
      | succ n => simp only [S.ok, List.all_eq_true] at this; exact this s (List.mem_of_getElem? hs)
    · cases hh with
      | none => exact .inl rfl
      | some h' =>
        have := hk h' rfl
        cases n with
        | zero => simp [S.ok] at this
        | succ n =>
          cases n with
          | zero =>
            simp only [S.ok, List.all_eq_true] at this
            have := this s (List.mem_of_getElem? hs)
            simp [S.ok] at this
          | succ n => exact .inr (by omega)
  | p b off cs y hO hy hr =>
    intro _ _ _
    refine .p b off cs y (fun j d hd => ?_) (fun j d hd => ?_) (fun j d hd => (hr j d hd).mono k.keeps)
    · exact (k.keeps b (World.block_lt_of_cell? w _ (hy j d hd)) (hO j d hd)).1
    · exact k.keeps.cell (hO j d hd) (hy j d hd)
  | r h b kk hH =>
    intro n hk _
    refine .r h b kk ((k.hd h (hne h n fun h' he => ?_)).trans hH)
    have := hk h' he
    cases n with
    | zero => simp [S.ok] at this
    | succ n => simpa [S.ok] using this
  | o h h1 =>
    intro n hk _
    have := k.hd h (hne h n hk)
    rw [← this] at h1 ⊢
    exact .o h h1
  | q h b kk i j len cap hH =>
    intro n hk _
    refine .q h b kk i j len cap ((k.hd h (hne h n fun h' he => ?_)).trans hH)
    have := hk h' he
    cases n with
    | zero => simp [S.ok] at this
    | succ n => simpa [S.ok] using this
  | t xs ss hl h ih =>
    intro n hk hn
    refine .t xs ss hl fun i x s hx hs => ih i x s hx hs (n - 1) (fun h' he => ?_) ?_
    · have := hk h' he
      cases n with
      | zero => simp [S.ok] at this
      | succ n => simp only [S.ok, List.all_eq_true] at this; exact this s (List.mem_of_getElem? hs)
    · cases hh with
      | none => exact .inl rfl
      | some h' =>
        have := hk h' rfl
        cases n with
        | zero => simp [S.ok] at this
        | succ n =>
          cases n with
          | zero =>
            simp only [S.ok, List.all_eq_true] at this
            have := this s (List.mem_of_getElem? hs)
            simp [S.ok] at this
          | succ n => exact .inr (by omega)
  | f fn xs ys fs cs hl hl' h h' ih ih' =>
    intro n hk hn
    have key : ∀ s, (s ∈ fs ∨ s ∈ cs) → (∀ h, hh = some h → S.ok (n - 1) h s = true) ∧ (hh = none ∨ 0 < n - 1) := by
      intro s hs
      cases hh with
      | none => exact ⟨fun h he => (by cases he), Or.inl rfl⟩
      | some h' =>
        have := hk h' rfl
        cases n with
        | zero => simp [S.ok] at this
        | succ n =>
          simp only [S.ok, List.all_eq_true, Bool.and_eq_true] at this
          have h2 : S.ok n h' s = true := by exact hs.elim (this.1 s) (this.2 s)
          refine ⟨fun h he => (by cases he; exact h2), Or.inr ?_⟩
          cases n with
          | zero => simp [S.ok] at h2
          | succ n => omega
    exact .f fn xs ys fs cs hl hl' (fun i x s hx hs => ih i x s hx hs (n - 1) (key s (.inl (List.mem_of_getElem? hs))).1 (key s (.inl (List.mem_of_getElem? hs))).2)
      (fun i x s hx hs => ih' i x s hx hs (n - 1) (key s (.inr (List.mem_of_getElem? hs))).1 (key s (.inr (List.mem_of_getElem? hs))).2)
  | c a kk rows h => exact fun _ _ _ => .c a kk rows (h.mono k.keeps)
  | w h b kk lo len L C hH hl =>
    intro n hk _
    refine .w h b kk lo len L C ((k.hd h (hne h n fun h' he => ?_)).trans hH) hl
    have := hk h' he
    cases n with
    | zero => simp [S.ok] at this
    | succ n => simpa [S.ok] using this
  | a x K h => exact fun _ _ _ => .a x K (K.mono _ _ _ _ _ k.keeps h)
  | u x => exact fun _ _ _ => .u x

/-- When no handle changes. -/
theorem RepS.mono0 {hb : Option Nat} {O O' : Nat → Nat} {H H' : Nat → Value} {w w' : World} (k : Keep hb none O H w O' H' w') {x : Value} {s : S} (hr : RepS O H w x s) : RepS O' H' w' x s :=
  hr.mono k 0 (fun _ h => by cases h) (.inl rfl)

/-- The call's own memory: a variable in a block of its own; a slice that the call made and may still write. -/
inductive Mo where
  | box (cs : List S)
  | own (k T : Nat) (rows : List (List D))
  | gone
  | fr (K : Kr)

def MHold (O : Nat → Nat) (H : Nat → Value) (B : Nat) (w : World) (h : Nat) : Mo → Prop
  | .gone => True
  | .fr K => K.q O w undef
  | .box cs => ∃ (b : Nat) (xs : Array Value) (T : Nat), H h = .pointer (some ⟨b, 0, none⟩) ∧ B ≤ b ∧ O b = h + 1 ∧ w.heap[b]? = some (.cells xs T (0, 0)) ∧ xs.size = cs.length ∧
      ∀ (i : Nat) (s : S), cs[i]? = some s → ∃ x, xs[i]? = some x ∧ RepS O H w x s ∧ x.oneCell' = true
  | .own k T rows => (H h = .slice none 0 0 ∧ rows = []) ∨ ∃ (b cap : Nat) (xs : Array Value), H h = .slice (some ⟨b, 0, none⟩) rows.length cap ∧ B ≤ b ∧ O b = h + 1 ∧
      w.heap[b]? = some (.cells xs T (0, 0)) ∧ rows.length ≤ cap ∧ cap ≤ maxLen ∧ xs.size = cap * k ∧ (∀ r, r ∈ rows → r.length = k) ∧
      ∀ (i : Nat) (r : List D) (j : Nat) (d : D), rows[i]? = some r → r[j]? = some d → ∃ x, xs[i * k + j]? = some x ∧ RepD O w x d ∧ x.oneCell' = true

def Mo.ok (n h : Nat) : Mo → Bool
  | .box cs => cs.all (S.ok n h)
  | _ => true

theorem MHold.mono {hb hh : Option Nat} {O O' : Nat → Nat} {H H' : Nat → Value} {B : Nat} {w w' : World} (k : Keep hb hh O H w O' H' w') {h : Nat} {m : Mo} (hm : MHold O H B w h m)
    (h1 : hb ≠ some h) (h2 : hh ≠ some h) (n : Nat) (hk : ∀ h, hh = some h → Mo.ok n h m = true) (hn : hh = none ∨ 0 < n) : MHold O' H' B w' h m := by
  cases m with
  | gone => trivial
  | fr K => exact K.mono _ _ _ _ _ k.keeps hm
  | box cs =>
    obtain ⟨b, xs, T, hH, hB, hO, hb', hs, hc⟩ := hm
    have hlt : b < w.heap.size := (Array.getElem?_eq_some_iff.1 hb').1
    refine ⟨b, xs, T, (k.hd h h2).trans hH, hB, (k.lab b hlt).trans hO, (k.hp b hlt fun h' he => ?_).trans hb', hs, fun i s hi => ?_⟩
    · intro hx; rw [hO] at hx; exact h1 (by rw [he]; congr 1; omega)
    · obtain ⟨x, hx, hr, ho⟩ := hc i s hi
      refine ⟨x, hx, hr.mono k n (fun h' he => ?_) hn, ho⟩
      have := hk h' he
      simp only [Mo.ok, List.all_eq_true] at this
      exact this s (List.mem_of_getElem? hi)
  | own kk T rows =>
    rcases hm with ⟨hH, hr⟩ | ⟨b, cap, xs, hH, hB, hO, hb', hlc, hcm, hs, hw, hc⟩
    · exact .inl ⟨(k.hd h h2).trans hH, hr⟩
    · have hlt : b < w.heap.size := (Array.getElem?_eq_some_iff.1 hb').1
      refine .inr ⟨b, cap, xs, (k.hd h h2).trans hH, hB, (k.lab b hlt).trans hO, (k.hp b hlt fun h' he => ?_).trans hb', hlc, hcm, hs, hw, fun i r j d hi hj => ?_⟩
      · intro hx; rw [hO] at hx; exact h1 (by rw [he]; congr 1; omega)
      · obtain ⟨x, hx, hr, ho⟩ := hc i r j d hi hj
        exact ⟨x, hx, hr.mono k.keeps, ho⟩

def look {α : Type} : List (Nat × α) → Nat → Option α
  | [], _ => none
  | (d, v) :: e, n => bif Nat.beq d n then some v else look e n

abbrev Env := List (Nat × S)
abbrev Mem := List (Nat × Mo)

theorem look_cons_same {α : Type} (d : Nat) (v : α) (e : List (Nat × α)) : look ((d, v) :: e) d = some v := by simp [look]
theorem look_cons {α : Type} {d n : Nat} {v x : α} {e : List (Nat × α)} (h : look ((d, v) :: e) n = some x) : (n = d ∧ x = v) ∨ (n ≠ d ∧ look e n = some x) := by
  simp only [look] at h
  by_cases hd : d = n
  · subst hd; simp at h; exact .inl ⟨rfl, h.symm⟩
  · have : Nat.beq d n = false := by cases hb : Nat.beq d n with
      | false => rfl
      | true => exact (hd (Nat.eq_of_beq_eq_true hb)).elim
    rw [this] at h
    exact .inr ⟨fun e => hd e.symm, h⟩

theorem look_mem {α : Type} {n : Nat} {x : α} : ∀ {e : List (Nat × α)}, look e n = some x → (n, x) ∈ e
  | [], h => by cases h
  | (d, v) :: e, h => by
    rcases look_cons h with ⟨rfl, rfl⟩ | ⟨_, h⟩
    · exact .head _
    · exact .tail _ (look_mem h)

structure St (N : Nat) (w0 : World) (O0 : Nat → Nat) (e : Env) (M : Mem) (O : Nat → Nat) (H : Nat → Value) (a : Act) (w : World) : Prop where
  df : a.defers = []
  sz : a.tmps.size = N
  bl : Below w0.heap.size w0 w
  lab : ∀ b, b < w0.heap.size → O b = O0 b
  slots : ∀ n s, look e n = some s → ∃ x, a.tmps[n]? = some x ∧ RepS O H w x s
  mem : ∀ h m, look M h = some m → MHold O H w0.heap.size w h m

end Go.Eng
