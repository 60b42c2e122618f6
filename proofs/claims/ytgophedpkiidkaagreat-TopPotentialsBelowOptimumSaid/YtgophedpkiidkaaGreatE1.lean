/- Part 1. -/
import Derived.WalkKit
import Derived.Deep.LoopGhost
import Derived.RangeFuncNested
import Derived.TacticsIn
import Derived.LoopIn
import Derived.Laws.Cover3
set_option linter.unusedSimpArgs false
set_option linter.unnecessarySimpa false
set_option linter.unusedVariables false
set_option linter.unusedSectionVars false
section
namespace Go.Eng
structure Below (B : Nat) (w w' : World) : Prop where
 os : w'.os = w.os
 tape : w'.tape = w.tape
 output : w'.output = w.output
 size : w.heap.size ≤ w'.heap.size
 block : ∀ k, k < B → w'.heap[k]? = w.heap[k]?
 drawn : w.drawn ≤ w'.drawn
theorem Below.refl (B : Nat) (w : World) : Below B w w := ⟨rfl, rfl, rfl, Nat.le_refl _, fun _ _ => rfl, Nat.le_refl _⟩
theorem Below.trans {B : Nat} {a b c : World} (h : Below B a b) (k : Below B b c) : Below B a c :=
 ⟨k.os.trans h.os, k.tape.trans h.tape, k.output.trans h.output, Nat.le_trans h.size k.size, fun i hi => (k.block i hi).trans (h.block i hi), Nat.le_trans h.drawn k.drawn⟩
theorem Below.mono {B B' : Nat} {w w' : World} (h : Below B w w') (hB : B' ≤ B) : Below B' w w' := ⟨h.os, h.tape, h.output, h.size, fun k hk => h.block k (Nat.lt_of_lt_of_le hk hB), h.drawn⟩
theorem Below.kit {B : Nat} {w w' : World} (h : Below B w w') : Go.RowKit.Below B w w' := ⟨h.os, h.tape, h.output, h.size, h.block⟩
theorem Below.heap_alloc (w : World) (o : Obj) (k : Nat) (h : k < w.heap.size) : (w.alloc o).heap[k]? = w.heap[k]? := Go.RowKit.Below.heap_alloc w o k h
theorem Below.alloc {B : Nat} {a w : World} (h : Below B a w) (hB : B ≤ w.heap.size) (o : Obj) : Below B a (w.alloc o) :=
 h.trans ⟨rfl, rfl, rfl, by simp, fun k hk => Below.heap_alloc _ _ _ (by omega), Nat.le_refl _⟩
theorem Below.drew {B : Nat} {a w : World} (h : Below B a w) : Below B a w.drew := ⟨h.os, h.tape, h.output, h.size, h.block, Nat.le_succ_of_le h.drawn⟩
inductive D where
 | v (x : Value)
 | s (k : Nat) (rows : List (List D))
inductive RepD (O : Nat → Nat) (w : World) : Value → D → Prop
 | v (x : Value) : RepD O w x (.v x)
 | e (a : Option Addr) (c k : Nat) (hm : c ≤ maxLen) : RepD O w (.slice a 0 c) (.s k [])
 | s (b off c k : Nat) (rows : List (List D)) (y : Nat → Value) (hc : rows.length ≤ c) (hm : c ≤ maxLen)
   (hw : ∀ r, r ∈ rows → r.length = k)
   (hO : ∀ (i : Nat) (r : List D) (j : Nat) (d : D), rows[i]? = some r → r[j]? = some d → O b = 0)
   (hy : ∀ (i : Nat) (r : List D) (j : Nat) (d : D), rows[i]? = some r → r[j]? = some d → w.cell? ⟨b, off + (i * k + j), none⟩ = some (y (i * k + j)))
   (hr : ∀ (i : Nat) (r : List D) (j : Nat) (d : D), rows[i]? = some r → r[j]? = some d → RepD O w (y (i * k + j)) d) :
   RepD O w (.slice (some ⟨b, off, none⟩) rows.length c) (.s k rows)
def Keeps (O : Nat → Nat) (w : World) (O' : Nat → Nat) (w' : World) : Prop :=
 ∀ b, b < w.heap.size → O b = 0 → O' b = 0 ∧ w'.heap[b]? = w.heap[b]?
theorem Keeps.cell {O O' : Nat → Nat} {w w' : World} (h : Keeps O w O' w') {a : Addr} {v : Value} (hO : O a.block = 0) (hc : w.cell? a = some v) : w'.cell? a = some v :=
 (World.cell?_of_block (h a.block (World.block_lt_of_cell? w a hc) hO).2).trans hc
theorem RepD.mono {O O' : Nat → Nat} {w w' : World} (h : Keeps O w O' w') {x : Value} {d : D} (hr : RepD O w x d) : RepD O' w' x d := by
 induction hr with
 | v x => exact .v x
 | e a c k hm => exact .e a c k hm
 | s b off c k rows y hc hm hw hO hy hr ih =>
  refine .s b off c k rows y hc hm hw (fun i r j d h1 h2 => ?_) (fun i r j d h1 h2 => ?_) (fun i r j d h1 h2 => ih i r j d h1 h2)
  ·exact (h b (World.block_lt_of_cell? w _ (hy i r j d h1 h2)) (hO i r j d h1 h2)).1
  ·exact h.cell (hO i r j d h1 h2) (hy i r j d h1 h2)
theorem Keeps.trans {O O' O'' : Nat → Nat} {w w' w'' : World} (h : Keeps O w O' w') (k : Keeps O' w' O'' w'') : Keeps O w O'' w'' := fun b hb hO => by
 obtain ⟨h1, h2⟩ := h b hb hO
 have hb' : b < w'.heap.size := by
  rw [Array.getElem?_eq_getElem hb] at h2
  exact (Array.getElem?_eq_some_iff.1 h2).1
 obtain ⟨h3, h4⟩ := k b hb' h1
 exact ⟨h3, h4.trans h2⟩
structure Kr where
 q : (Nat → Nat) → World → Value → Prop
 mono : ∀ (O : Nat → Nat) (w : World) (O' : Nat → Nat) (w' : World) (x : Value), Keeps O w O' w' → q O w x → q O' w' x
inductive S where
 | d (x : D)
 | g (cs : List S)
 | p (cs : List D)
 | r (h k : Nat)
 | o (h : Nat)
 | q (h k i j : Nat)
 | t (l : List S)
 | f (fn : Nat) (fs cs : List S)
 | c (k : Nat) (rows : List (List D))
 | w (h k lo len : Nat)
 | a (K : Kr)
 | u
inductive RepS (O : Nat → Nat) (H : Nat → Value) (w : World) : Value → S → Prop
 | d (x : Value) (y : D) (h : RepD O w x y) : RepS O H w x (.d y)
 | g (xs : List Value) (ss : List S) (hl : xs.length = ss.length) (h1 : ∀ x, x ∈ xs → x.oneCell' = true)
   (h : ∀ (i : Nat) (x : Value) (s : S), xs[i]? = some x → ss[i]? = some s → RepS O H w x s) : RepS O H w (.agg xs.toArray) (.g ss)
 | p (b off : Nat) (cs : List D) (y : Nat → Value) (hO : ∀ (j : Nat) (d : D), cs[j]? = some d → O b = 0)
   (hy : ∀ (j : Nat) (d : D), cs[j]? = some d → w.cell? ⟨b, off + j, none⟩ = some (y j)) (hr : ∀ (j : Nat) (d : D), cs[j]? = some d → RepD O w (y j) d) :
   RepS O H w (.pointer (some ⟨b, off, none⟩)) (.p cs)
 | r (h b k : Nat) (hH : H h = .pointer (some ⟨b, 0, none⟩)) : RepS O H w (.pointer (some ⟨b, k, none⟩)) (.r h k)
 | o (h : Nat) (h1 : (H h).oneCell' = true) : RepS O H w (H h) (.o h)
 | q (h b k i j len cap : Nat) (hH : H h = .slice (some ⟨b, 0, none⟩) len cap) : RepS O H w (.pointer (some ⟨b, i * k + j, none⟩)) (.q h k i j)
 | t (xs : List Value) (ss : List S) (hl : xs.length = ss.length)
   (h : ∀ (i : Nat) (x : Value) (s : S), xs[i]? = some x → ss[i]? = some s → RepS O H w x s) : RepS O H w (.tuple xs.toArray) (.t ss)
 | f (fn : Nat) (xs ys : List Value) (fs cs : List S) (hl : xs.length = fs.length) (hl' : ys.length = cs.length)
   (h : ∀ (i : Nat) (x : Value) (s : S), xs[i]? = some x → fs[i]? = some s → RepS O H w x s)
   (h' : ∀ (i : Nat) (x : Value) (s : S), ys[i]? = some x → cs[i]? = some s → RepS O H w x s) : RepS O H w (.func (.func fn) xs.toArray ys.toArray) (.f fn fs cs)
 | c (a : Option Addr) (k : Nat) (rows : List (List D)) (h : RepD O w (.slice a rows.length rows.length) (.s k rows)) : RepS O H w (.slice a rows.length rows.length) (.c k rows)
 | w (h b k lo len L C : Nat) (hH : H h = .slice (some ⟨b, 0, none⟩) L C) (hl : lo + len ≤ C) : RepS O H w (.slice (some ⟨b, lo * k, none⟩) len (C - lo)) (.w h k lo len)
 | a (x : Value) (K : Kr) (h : K.q O w x) : RepS O H w x (.a K)
 | u (x : Value) : RepS O H w x .u
def S.ok : Nat → Nat → S → Bool
 | 0, _, _ => false
 | n + 1, h, s => match s with
  | .d _ | .p _ | .c _ _ | .a _ | .u => true
  | .r h' _ | .o h' | .q h' _ _ _ | .w h' _ _ _ => !(Nat.beq h' h)
  | .g cs | .t cs => cs.all (S.ok n h)
  | .f _ fs cs => fs.all (S.ok n h) && cs.all (S.ok n h)
structure Keep (hb hh : Option Nat) (O : Nat → Nat) (H : Nat → Value) (w : World) (O' : Nat → Nat) (H' : Nat → Value) (w' : World) : Prop where
 lab : ∀ b, b < w.heap.size → O' b = O b
 hp : ∀ b, b < w.heap.size → (∀ h, hb = some h → O b ≠ h + 1) → w'.heap[b]? = w.heap[b]?
 hd : ∀ h, hh ≠ some h → H' h = H h
theorem Keep.keeps {hb hh : Option Nat} {O O' : Nat → Nat} {H H' : Nat → Value} {w w' : World} (k : Keep hb hh O H w O' H' w') : Keeps O w O' w' :=
 fun b hb hO => ⟨(k.lab b hb).trans hO, k.hp b hb fun h _ => by omega⟩
theorem RepS.mono {hb hh : Option Nat} {O O' : Nat → Nat} {H H' : Nat → Value} {w w' : World} (k : Keep hb hh O H w O' H' w') {x : Value} {s : S} (hr : RepS O H w x s) :
  ∀ n, (∀ h, hh = some h → S.ok n h s = true) → (hh = none ∨ 0 < n) → RepS O' H' w' x s := by
 have hne : ∀ (h' : Nat) (n : Nat), (∀ h, hh = some h → S.ok n h (.o h') = true) → hh ≠ some h' := by
  intro h' n hk he
  have := hk h' he
  cases n <;> simp [S.ok] at this
 induction hr with
 | d x y h => exact fun _ _ _ => .d x y (h.mono k.keeps)
 | g xs ss hl h1 h ih =>
  intro n hk hn
  refine .g xs ss hl h1 fun i x s hx hs => ih i x s hx hs (n - 1) (fun h' he => ?_) ?_
  ·have := hk h' he
   cases n with
   | zero => simp [S.ok] at this
   | succ n => simp only [S.ok, List.all_eq_true] at this; exact this s (List.mem_of_getElem? hs)
  ·cases hh with
   | none => exact .inl rfl
   | some h' =>
    have := hk h' rfl
    cases n with
    | zero => simp [S.ok] at this
    | succ n =>
     cases n with
     | zero =>
      simp only [S.ok, List.all_eq_true] at this
      have := this s (List.mem_of_getElem? hs)
      simp [S.ok] at this
     | succ n => exact .inr (by omega)
 | p b off cs y hO hy hr =>
  intro _ _ _
  refine .p b off cs y (fun j d hd => ?_) (fun j d hd => ?_) (fun j d hd => (hr j d hd).mono k.keeps)
  ·exact (k.keeps b (World.block_lt_of_cell? w _ (hy j d hd)) (hO j d hd)).1
  ·exact k.keeps.cell (hO j d hd) (hy j d hd)
 | r h b kk hH =>
  intro n hk _
  refine .r h b kk ((k.hd h (hne h n fun h' he => ?_)).trans hH)
  have := hk h' he
  cases n with
  | zero => simp [S.ok] at this
  | succ n => simpa [S.ok] using this
 | o h h1 =>
  intro n hk _
  have := k.hd h (hne h n hk)
  rw [← this] at h1 ⊢
  exact .o h h1
 | q h b kk i j len cap hH =>
  intro n hk _
  refine .q h b kk i j len cap ((k.hd h (hne h n fun h' he => ?_)).trans hH)
  have := hk h' he
  cases n with
  | zero => simp [S.ok] at this
  | succ n => simpa [S.ok] using this
 | t xs ss hl h ih =>
  intro n hk hn
  refine .t xs ss hl fun i x s hx hs => ih i x s hx hs (n - 1) (fun h' he => ?_) ?_
  ·have := hk h' he
   cases n with
   | zero => simp [S.ok] at this
   | succ n => simp only [S.ok, List.all_eq_true] at this; exact this s (List.mem_of_getElem? hs)
  ·cases hh with
   | none => exact .inl rfl
   | some h' =>
    have := hk h' rfl
    cases n with
    | zero => simp [S.ok] at this
    | succ n =>
     cases n with
     | zero =>
      simp only [S.ok, List.all_eq_true] at this
      have := this s (List.mem_of_getElem? hs)
      simp [S.ok] at this
     | succ n => exact .inr (by omega)
 | f fn xs ys fs cs hl hl' h h' ih ih' =>
  intro n hk hn
  have key : ∀ s, (s ∈ fs ∨ s ∈ cs) → (∀ h, hh = some h → S.ok (n - 1) h s = true) ∧ (hh = none ∨ 0 < n - 1) := by
   intro s hs
   cases hh with
   | none => exact ⟨fun h he => (by cases he), Or.inl rfl⟩
   | some h' =>
    have := hk h' rfl
    cases n with
    | zero => simp [S.ok] at this
    | succ n =>
     simp only [S.ok, List.all_eq_true, Bool.and_eq_true] at this
     have h2 : S.ok n h' s = true := by exact hs.elim (this.1 s) (this.2 s)
     refine ⟨fun h he => (by cases he; exact h2), Or.inr ?_⟩
     cases n with
     | zero => simp [S.ok] at h2
     | succ n => omega
  exact .f fn xs ys fs cs hl hl' (fun i x s hx hs => ih i x s hx hs (n - 1) (key s (.inl (List.mem_of_getElem? hs))).1 (key s (.inl (List.mem_of_getElem? hs))).2)
   (fun i x s hx hs => ih' i x s hx hs (n - 1) (key s (.inr (List.mem_of_getElem? hs))).1 (key s (.inr (List.mem_of_getElem? hs))).2)
 | c a kk rows h => exact fun _ _ _ => .c a kk rows (h.mono k.keeps)
 | w h b kk lo len L C hH hl =>
  intro n hk _
  refine .w h b kk lo len L C ((k.hd h (hne h n fun h' he => ?_)).trans hH) hl
  have := hk h' he
  cases n with
  | zero => simp [S.ok] at this
  | succ n => simpa [S.ok] using this
 | a x K h => exact fun _ _ _ => .a x K (K.mono _ _ _ _ _ k.keeps h)
 | u x => exact fun _ _ _ => .u x
theorem RepS.mono0 {hb : Option Nat} {O O' : Nat → Nat} {H H' : Nat → Value} {w w' : World} (k : Keep hb none O H w O' H' w') {x : Value} {s : S} (hr : RepS O H w x s) : RepS O' H' w' x s :=
 hr.mono k 0 (fun _ h => by cases h) (.inl rfl)
structure Km where
 q : (Nat → Nat) → Value → Nat → World → Nat → Prop
 mono : ∀ (O O' : Nat → Nat) (v : Value) (B : Nat) (w w' : World) (h : Nat), (∀ b, b < w.heap.size → O b = 0 ∨ O b = h + 1 → O' b = O b ∧ w'.heap[b]? = w.heap[b]?) → q O v B w h → q O' v B w' h
inductive Mo where
 | box (cs : List S)
 | own (k T : Nat) (rows : List (List D))
 | gone
 | fr (K : Kr)
 | any (K : Km)
def MHold (O : Nat → Nat) (H : Nat → Value) (B : Nat) (w : World) (h : Nat) : Mo → Prop
 | .gone => True
 | .fr K => K.q O w undef
 | .any K => K.q O (H h) B w h
 | .box cs => ∃ (b : Nat) (xs : Array Value) (T : Nat), H h = .pointer (some ⟨b, 0, none⟩) ∧ B ≤ b ∧ O b = h + 1 ∧ w.heap[b]? = some (.cells xs T (0, 0)) ∧ xs.size = cs.length ∧
   ∀ (i : Nat) (s : S), cs[i]? = some s → ∃ x, xs[i]? = some x ∧ RepS O H w x s ∧ x.oneCell' = true
 | .own k T rows => (H h = .slice none 0 0 ∧ rows = []) ∨ ∃ (b cap : Nat) (xs : Array Value), H h = .slice (some ⟨b, 0, none⟩) rows.length cap ∧ B ≤ b ∧ O b = h + 1 ∧
   w.heap[b]? = some (.cells xs T (0, 0)) ∧ rows.length ≤ cap ∧ cap ≤ maxLen ∧ xs.size = cap * k ∧ (∀ r, r ∈ rows → r.length = k) ∧
   ∀ (i : Nat) (r : List D) (j : Nat) (d : D), rows[i]? = some r → r[j]? = some d → ∃ x, xs[i * k + j]? = some x ∧ RepD O w x d ∧ x.oneCell' = true
def Mo.ok (n h : Nat) : Mo → Bool
 | .box cs => cs.all (S.ok n h)
 | _ => true
theorem MHold.mono {hb hh : Option Nat} {O O' : Nat → Nat} {H H' : Nat → Value} {B : Nat} {w w' : World} (k : Keep hb hh O H w O' H' w') {h : Nat} {m : Mo} (hm : MHold O H B w h m)
  (h1 : hb ≠ some h) (h2 : hh ≠ some h) (n : Nat) (hk : ∀ h, hh = some h → Mo.ok n h m = true) (hn : hh = none ∨ 0 < n) : MHold O' H' B w' h m := by
 cases m with
 | gone => trivial
 | fr K => exact K.mono _ _ _ _ _ k.keeps hm
 | any K =>
  show K.q O' (H' h) B w' h
  rw [k.hd h h2]
  refine K.mono O O' (H h) B w w' h (fun b hb hO => ⟨k.lab b hb, k.hp b hb fun h' he hx => ?_⟩) hm
  rcases hO with hO | hO
  ·omega
  ·exact h1 (by rw [he]; congr 1; omega)
 | box cs =>
  obtain ⟨b, xs, T, hH, hB, hO, hb', hs, hc⟩ := hm
  have hlt : b < w.heap.size := (Array.getElem?_eq_some_iff.1 hb').1
  refine ⟨b, xs, T, (k.hd h h2).trans hH, hB, (k.lab b hlt).trans hO, (k.hp b hlt fun h' he => ?_).trans hb', hs, fun i s hi => ?_⟩
  ·intro hx; rw [hO] at hx; exact h1 (by rw [he]; congr 1; omega)
  ·obtain ⟨x, hx, hr, ho⟩ := hc i s hi
   refine ⟨x, hx, hr.mono k n (fun h' he => ?_) hn, ho⟩
   have := hk h' he
   simp only [Mo.ok, List.all_eq_true] at this
   exact this s (List.mem_of_getElem? hi)
 | own kk T rows =>
  rcases hm with ⟨hH, hr⟩ | ⟨b, cap, xs, hH, hB, hO, hb', hlc, hcm, hs, hw, hc⟩
  ·exact .inl ⟨(k.hd h h2).trans hH, hr⟩
  ·have hlt : b < w.heap.size := (Array.getElem?_eq_some_iff.1 hb').1
   refine .inr ⟨b, cap, xs, (k.hd h h2).trans hH, hB, (k.lab b hlt).trans hO, (k.hp b hlt fun h' he => ?_).trans hb', hlc, hcm, hs, hw, fun i r j d hi hj => ?_⟩
   ·intro hx; rw [hO] at hx; exact h1 (by rw [he]; congr 1; omega)
   ·obtain ⟨x, hx, hr, ho⟩ := hc i r j d hi hj
    exact ⟨x, hx, hr.mono k.keeps, ho⟩
def look {α : Type} : List (Nat × α) → Nat → Option α
 | [], _ => none
 | (d, v) :: e, n => bif Nat.beq d n then some v else look e n
abbrev Env := List (Nat × S)
abbrev Mem := List (Nat × Mo)
theorem look_cons_same {α : Type} (d : Nat) (v : α) (e : List (Nat × α)) : look ((d, v) :: e) d = some v := by simp [look]
theorem look_cons {α : Type} {d n : Nat} {v x : α} {e : List (Nat × α)} (h : look ((d, v) :: e) n = some x) : (n = d ∧ x = v) ∨ (n ≠ d ∧ look e n = some x) := by
 simp only [look] at h
 by_cases hd : d = n
 ·subst hd; simp at h; exact .inl ⟨rfl, h.symm⟩
 ·have : Nat.beq d n = false := by cases hb : Nat.beq d n with
   | false => rfl
   | true => exact (hd (Nat.eq_of_beq_eq_true hb)).elim
  rw [this] at h
  exact .inr ⟨fun e => hd e.symm, h⟩
theorem look_mem {α : Type} {n : Nat} {x : α} : ∀ {e : List (Nat × α)}, look e n = some x → (n, x) ∈ e
 | [], h => by cases h
 | (d, v) :: e, h => by
  rcases look_cons h with ⟨rfl, rfl⟩ | ⟨_, h⟩
  ·exact .head _
  ·exact .tail _ (look_mem h)
structure St (N : Nat) (w0 : World) (O0 : Nat → Nat) (e : Env) (M : Mem) (O : Nat → Nat) (H : Nat → Value) (a : Act) (w : World) : Prop where
 df : a.defers = []
 sz : a.tmps.size = N
 bl : Below w0.heap.size w0 w
 lab : ∀ b, b < w0.heap.size → O b = O0 b
 slots : ∀ n s, look e n = some s → ∃ x, a.tmps[n]? = some x ∧ RepS O H w x s
 mem : ∀ h m, look M h = some m → MHold O H w0.heap.size w h m
end Go.Eng
namespace Go.Eng
def opS (e : Env) : Operand → Option S
 | .tmp t => look e t
 | .const v => some (.d (.v v))
 | .func f => some (.f f [] [])
 | .global _ => none
def Slots (a : Act) (O : Nat → Nat) (H : Nat → Value) (w : World) (e : Env) (os : Array Operand) : Prop :=
 ∀ x, x ∈ os → ∀ s, opS e x = some s → RepS O H w (a.eval x) s
def Mems (O : Nat → Nat) (H : Nat → Value) (B : Nat) (w : World) (M : Mem) : Prop := ∀ h m, look M h = some m → MHold O H B w h m
theorem St.slotsAt {N : Nat} {w0 w : World} {O0 : Nat → Nat} {e : Env} {M : Mem} {O : Nat → Nat} {H : Nat → Value} {a : Act} (h : St N w0 O0 e M O H a w) (os : Array Operand) : Slots a O H w e os := by
 intro x _ s hs
 cases x with
 | tmp t =>
  obtain ⟨x, hx, hr⟩ := h.slots t s hs
  simpa [Act.eval, Array.getD_eq_getD_getElem?, hx] using hr
 | const v => simp only [opS, Option.some.injEq] at hs; subst hs; exact .d _ _ (.v v)
 | global g => cases hs
 | func f =>
  simp only [opS, Option.some.injEq] at hs; subst hs
  exact .f f [] [] [] [] rfl rfl (fun i x s h => by simp at h) (fun i x s h => by simp at h)
def OpSem (P : Program) (B : Nat) (o : Oper) (e : Env) (M : Mem) (s : S) (mo : Option (Nat × Mo)) : Prop :=
 ∀ (O : Nat → Nat) (H : Nat → Value) (a : Act) (w : World), B ≤ w.heap.size → Slots a O H w e o.op.operands → Mems O H B w M →
  ∀ K : Act → World → Prop,
   (∀ (O' : Nat → Nat) (H' : Nat → Value) (w' : World) (x : Value), Keep none (mo.map (·.1)) O H w O' H' w' → Below w.heap.size w w' → RepS O' H' w' x s →
    (∀ h m, mo = some (h, m) → MHold O' H' B w' h m) → K (a.put o.dst x) w') →
   o.wp P a w K (fun _ _ _ => False)
theorem Keep.refl (hb hh : Option Nat) (O : Nat → Nat) (H : Nat → Value) (w : World) : Keep hb hh O H w O H w := ⟨fun _ _ => rfl, fun _ _ _ => rfl, fun _ _ => rfl⟩
theorem OpSem.value {P : Program} {B : Nat} {o : Oper} {e : Env} {M : Mem} {s : S}
  (h : ∀ (O : Nat → Nat) (H : Nat → Value) (a : Act) (w : World), Slots a O H w e o.op.operands → Mems O H B w M →
   ∃ x, (execOp a.eval o).run P w = .ok (.value x) w ∧ RepS O H w x s) : OpSem P B o e M s none := by
 intro O H a w hB hs hm K hK
 obtain ⟨x, hx, hr⟩ := h O H a w hs hm
 unfold Oper.wp
 rw [hx]
 exact hK O H w x (.refl _ _ _ _ _) (.refl _ _) hr (fun _ _ h => by cases h)
section
variable {P : Program} {B : Nat} {o : Oper} {e : Env} {M : Mem} {s : S}
theorem OpSem.move {x : Operand} (ho : o.op = .move x ∨ o.op = .assign x) (hx : opS e x = some s) : OpSem P B o e M s none :=
 .value fun O H a w hs _ => by
  rcases ho with ho | ho <;> (refine ⟨a.eval x, ?_, hs x (by simp [ho, Op.operands]) s hx⟩; simp [execOp, ho])
theorem loadCells_list {w : World} (b off : Nat) (xs : List Value) (h : ∀ (j : Nat) (v : Value), xs[j]? = some v → w.cell? ⟨b, off + j, none⟩ = some v) :
  (loadCells ⟨b, off, none⟩ xs.length).run P w = .ok xs.toArray w :=
 run_loadCells_list w ⟨b, off, none⟩ xs fun j v hv => by rw [Addr.add_lit]; exact h j v hv
def vsz (P : Program) (t : TypeId) : Option (Bool × Nat) :=
 match P.info? t, P.underlying t with
 | some i, some d => some ((match d with | .struct _ | .array _ _ => true | _ => false), i.size)
 | _, _ => none
theorem run_isAgg {t : TypeId} {g : Bool} {n : Nat} (h : vsz P t = some (g, n)) (w : World) : (isAgg t).run P w = .ok g w ∧ (sizeOf t).run P w = .ok n w := by
 unfold vsz at h
 cases hi : P.info? t with
 | none => simp [hi] at h
 | some i =>
  cases hu : P.underlying t with
  | none => simp [hi, hu] at h
  | some d =>
   simp only [hi, hu, Option.some.injEq, Prod.mk.injEq] at h
   obtain ⟨h1, h2⟩ := h
   subst h1; subst h2
   constructor
   ·cases d <;> simp [isAgg, run_underlying hu]
   ·simp [sizeOf, typeInfo, hi]
theorem run_loadVar1 {t : TypeId} {n : Nat} (h : vsz P t = some (false, n)) {w : World} {a : Addr} {v : Value} (hc : w.cell? a = some v) : (loadVar t a).run P w = .ok v w := by
 simp [loadVar, (run_isAgg h w).1, hc]
theorem run_loadVarN {t : TypeId} {xs : List Value} (h : vsz P t = some (true, xs.length)) {w : World} {b off : Nat} (hc : ∀ (j : Nat) (v : Value), xs[j]? = some v → w.cell? ⟨b, off + j, none⟩ = some v) :
  (loadVar t ⟨b, off, none⟩).run P w = .ok (.agg xs.toArray) w := by
 simp [loadVar, (run_isAgg h w).1, (run_isAgg h w).2, loadCells_list b off xs hc]
theorem OpSem.load1 {t : TypeId} {x : Operand} {cs : List D} {d : D} (ho : o.op = .load t x) (hx : opS e x = some (.p cs)) (ht : vsz P t = some (false, 1)) (hd : cs[0]? = some d) :
  OpSem P B o e M (.d d) none :=
 .value fun O H a w hs _ => by
  have hr := hs x (by simp [ho, Op.operands]) _ hx
  generalize hv : a.eval x = v at hr
  cases hr with
  | p b off cs y hO hy hr =>
   have hc := hy 0 d hd
   refine ⟨y 0, ?_, .d _ _ (hr 0 d hd)⟩
   simp only [Nat.add_zero] at hc
   simp [execOp, ho, Instr.loadAt, Instr.sureAddr, hv, run_loadVar1 ht hc]
def D.one : D → Bool | .v y => y.oneCell' | .s _ _ => true
theorem RepD.one' {O : Nat → Nat} {w : World} {x : Value} {d : D} (h : RepD O w x d) (hd : d.one = true) : x.oneCell' = true := by
 cases h <;> simp_all [Value.oneCell', D.one]
theorem OpSem.loadN {t : TypeId} {x : Operand} {cs : List D} {n : Nat} (ho : o.op = .load t x) (hx : opS e x = some (.p cs)) (ht : vsz P t = some (true, n)) (hn : n ≤ cs.length)
  (h1 : (cs.take n).all D.one = true) : OpSem P B o e M (.g ((cs.take n).map .d)) none :=
 .value fun O H a w hs _ => by
  have hr := hs x (by simp [ho, Op.operands]) _ hx
  generalize hv : a.eval x = v at hr
  cases hr with
  | p b off cs y hO hy hr =>
   have hcell : ∀ (j : Nat) (v : Value), ((List.range n).map y)[j]? = some v → w.cell? ⟨b, off + j, none⟩ = some v := by
    intro j v hj
    simp only [List.getElem?_map, Option.map_eq_some_iff] at hj
    obtain ⟨j', hj', rfl⟩ := hj
    have hlt : j < n := by have := (List.getElem?_eq_some_iff.1 hj').1; simpa using this
    have : j' = j := by simpa [hlt] using hj'.symm
    subst this
    exact hy j' _ (List.getElem?_eq_getElem (by omega))
   refine ⟨.agg ((List.range n).map y).toArray, ?_, .g _ _ (by simp [hn]) (fun z hz => ?_) (fun i z s hz hs => ?_)⟩
   ·have := run_loadVarN (P := P) (t := t) (xs := (List.range n).map y) (by simpa using ht) hcell
    simp [execOp, ho, Instr.loadAt, Instr.sureAddr, hv] at this ⊢
    simp [this]
   ·simp only [List.mem_map, List.mem_range] at hz
    obtain ⟨j, hj, rfl⟩ := hz
    have hd := List.getElem?_eq_getElem (l := cs) (i := j) (by omega)
    refine (hr j _ hd).one' ?_
    rw [List.all_eq_true] at h1
    exact h1 _ (List.mem_take_iff_getElem.2 ⟨j, by omega, rfl⟩)
   ·simp only [List.getElem?_map, Option.map_eq_some_iff] at hz hs
    obtain ⟨j, hj, rfl⟩ := hz
    obtain ⟨d, hd, rfl⟩ := hs
    have hlt : i < n := by have := (List.getElem?_eq_some_iff.1 hj).1; simpa using this
    have : j = i := by simpa [hlt] using hj.symm
    subst this
    rw [List.getElem?_take_of_lt hlt] at hd
    exact .d _ _ (hr j d hd)
theorem cellOf {w : World} {b : Nat} {xs : Array Value} {T i : Nat} {x : Value} {fz : Nat × Nat} (hb : w.heap[b]? = some (.cells xs T fz)) (hx : xs[i]? = some x) : w.cell? ⟨b, i, none⟩ = some x := by
 simp [World.cell?, hb, hx]
theorem OpSem.loadb1 {t : TypeId} {x : Operand} {h k : Nat} {cs : List S} {s : S} (ho : o.op = .load t x) (hx : opS e x = some (.r h k)) (hM : look M h = some (.box cs)) (ht : vsz P t = some (false, 1))
  (hd : cs[k]? = some s) : OpSem P B o e M s none :=
 .value fun O H a w hs hm => by
  have hr := hs x (by simp [ho, Op.operands]) _ hx
  obtain ⟨b, xs, T, hH, _, _, hb, _, hc⟩ := hm h _ hM
  generalize hv : a.eval x = v at hr
  cases hr with
  | r h b' k hH' =>
   rw [hH] at hH'
   simp only [Value.pointer.injEq, Option.some.injEq, Addr.mk.injEq, and_true] at hH'
   subst hH'
   obtain ⟨y, hy, hr, _⟩ := hc k s hd
   exact ⟨y, by simp [execOp, ho, Instr.loadAt, Instr.sureAddr, hv, run_loadVar1 ht (cellOf hb hy)], hr⟩
theorem OpSem.loadbN {t : TypeId} {x : Operand} {h k n : Nat} {cs : List S} (ho : o.op = .load t x) (hx : opS e x = some (.r h k)) (hM : look M h = some (.box cs)) (ht : vsz P t = some (true, n))
  (hn : k + n ≤ cs.length) : OpSem P B o e M (.g ((cs.drop k).take n)) none :=
 .value fun O H a w hs hm => by
  have hr := hs x (by simp [ho, Op.operands]) _ hx
  obtain ⟨b, xs, T, hH, _, _, hb, hsz, hc⟩ := hm h _ hM
  generalize hv : a.eval x = v at hr
  cases hr with
  | r h b' k hH' =>
   rw [hH] at hH'
   simp only [Value.pointer.injEq, Option.some.injEq, Addr.mk.injEq, and_true] at hH'
   subst hH'
   have hl : ((xs.toList.drop k).take n).length = n := by simp; omega
   refine ⟨.agg ((xs.toList.drop k).take n).toArray, ?_, .g _ _ (by simp; omega) (fun z hz => ?_) (fun i z s hz hs => ?_)⟩
   ·have := run_loadVarN (P := P) (t := t) (xs := (xs.toList.drop k).take n) (by rw [hl]; exact ht) (w := w) (b := b) (off := k) (fun j v hj => by
     have hjn : j < n := by have := (List.getElem?_eq_some_iff.1 hj).1; omega
     rw [List.getElem?_take_of_lt hjn, List.getElem?_drop] at hj
     exact cellOf hb (by simpa using hj))
    simp only [execOp, ho, Instr.loadAt, Instr.sureAddr, hv]
    simp only [Sem.run_bind, Sem.run_pure, Result.andThen_ok, this]
   ·obtain ⟨j, hj⟩ := List.getElem?_of_mem hz
    have hjn : j < n := by have := (List.getElem?_eq_some_iff.1 hj).1; omega
    rw [List.getElem?_take_of_lt hjn, List.getElem?_drop] at hj
    obtain ⟨y, hy, _, h1⟩ := hc (k + j) _ (List.getElem?_eq_getElem (by omega))
    have : z = y := by simpa [hy] using hj.symm
    rw [this]; exact h1
   ·have hjn : i < n := by have := (List.getElem?_eq_some_iff.1 hz).1; omega
    rw [List.getElem?_take_of_lt hjn, List.getElem?_drop] at hz hs
    obtain ⟨y, hy, hr, _⟩ := hc (k + i) _ hs
    have : z = y := by simpa [hy] using hz.symm
    rw [this]; exact hr
theorem OpSem.loadq {t : TypeId} {x : Operand} {h k T i j : Nat} {rows : List (List D)} {r : List D} {d : D} (ho : o.op = .load t x) (hx : opS e x = some (.q h k i j)) (hM : look M h = some (.own k T rows))
  (ht : vsz P t = some (false, 1)) (hi : rows[i]? = some r) (hj : r[j]? = some d) : OpSem P B o e M (.d d) none :=
 .value fun O H a w hs hm => by
  have hr := hs x (by simp [ho, Op.operands]) _ hx
  generalize hv : a.eval x = v at hr
  cases hr with
  | q h b k i j len cap hH =>
   rcases hm h _ hM with ⟨h0, _⟩ | ⟨b', cap', xs, hH', _, _, hb, _, _, _, _, hc⟩
   ·rw [h0] at hH; cases hH
   ·rw [hH] at hH'
    simp only [Value.slice.injEq, Option.some.injEq, Addr.mk.injEq, and_true] at hH'
    obtain ⟨rfl, _, _⟩ := hH'
    obtain ⟨y, hy, hr, _⟩ := hc i r j d hi hj
    exact ⟨y, by simp [execOp, ho, Instr.loadAt, Instr.sureAddr, hv, run_loadVar1 ht (cellOf hb hy)], .d _ _ hr⟩
def fof (P : Program) (t : TypeId) (k : Nat) : Option Nat :=
 match P.underlying t with
 | some (.struct fs) => match fs[k]? with
  | some f => match P.info? f.type with
   | some i => if i.size = 0 then none else some f.offset
   | none => none
  | none => none
 | _ => none
theorem run_fieldAt {t k n b off : Nat} (h : fof P t k = some n) (w : World) : (Instr.fieldAt t (.pointer (some ⟨b, off, none⟩)) k).run P w = .ok (.pointer (some ⟨b, off + n, none⟩)) w := by
 unfold fof at h
 cases hu : P.underlying t with
 | none => simp [hu] at h
 | some d =>
  cases d <;> simp only [hu] at h <;> try (cases h; done)
  case struct fs =>
   cases hf : fs[k]? with
   | none => simp [hf] at h
   | some f =>
    cases hi : P.info? f.type with
    | none => simp [hf, hi] at h
    | some i =>
     simp only [hf, hi] at h
     split at h
     ·cases h
     ·rename_i hz
      simp only [Option.some.injEq] at h
      subst h
      simp [Instr.fieldAt, run_underlying hu, hf, Instr.sureAddr, fieldPlace, sizeOf, typeInfo, hi, hz, Addr.add_lit]
theorem OpSem.fieldp {t k n : Nat} {x : Operand} {cs : List D} (ho : o.op = .fieldAddr t x k) (hx : opS e x = some (.p cs)) (ht : fof P t k = some n) : OpSem P B o e M (.p (cs.drop n)) none :=
 .value fun O H a w hs _ => by
  have hr := hs x (by simp [ho, Op.operands]) _ hx
  generalize hv : a.eval x = v at hr
  cases hr with
  | p b off cs y hO hy hr =>
   refine ⟨.pointer (some ⟨b, off + n, none⟩), by simp [execOp, ho, hv, run_fieldAt ht], .p b (off + n) _ (fun j => y (n + j)) (fun j d hd => ?_) (fun j d hd => ?_) (fun j d hd => ?_)⟩
   ·rw [List.getElem?_drop] at hd; exact hO _ d hd
   ·rw [List.getElem?_drop] at hd; rw [Nat.add_assoc]; exact hy _ d hd
   ·rw [List.getElem?_drop] at hd; exact hr _ d hd
theorem OpSem.fieldr {t k n h m : Nat} {x : Operand} (ho : o.op = .fieldAddr t x k) (hx : opS e x = some (.r h m)) (ht : fof P t k = some n) : OpSem P B o e M (.r h (m + n)) none :=
 .value fun O H a w hs _ => by
  have hr := hs x (by simp [ho, Op.operands]) _ hx
  generalize hv : a.eval x = v at hr
  cases hr with
  | r h b m hH => exact ⟨.pointer (some ⟨b, m + n, none⟩), by simp [execOp, ho, hv, run_fieldAt ht], .r h b _ hH⟩
def esz (P : Program) (t : TypeId) : Option Nat :=
 match P.underlying t with
 | some (.slice e) => (P.info? e).map (·.size)
 | _ => none
theorem esz_spec {t k : Nat} (h : esz P t = some k) : P.underlying t = some (.slice (P.elem t)) ∧ ∃ i, P.info? (P.elem t) = some i ∧ i.size = k := by
 unfold esz at h
 cases hu : P.underlying t with
 | none => simp [hu] at h
 | some d =>
  cases d <;> simp only [hu] at h <;> try (cases h; done)
  case slice e =>
   have he : P.elem t = e := by simp [Program.elem, hu]
   rw [he]
   cases hi : P.info? e with
   | none => simp [hi] at h
   | some i => exact ⟨rfl, i, rfl, by simpa [hi] using h⟩
theorem run_idx {t k b off len cap : Nat} {kk : IntKind} {n : Int} (h : esz P t = some k) (h0 : 0 ≤ n) (h1 : n < len) (w : World) :
  (Instr.indexAt t (.slice (some ⟨b, off, none⟩) len cap) (.int kk n)).run P w = .ok (.pointer (some ⟨b, off + n.toNat * k, none⟩)) w := by
 obtain ⟨hu, i, hi, rfl⟩ := esz_spec h
 rw [run_indexAt_slice w t _ len cap kk n hu, if_pos ⟨h0, h1⟩]
 simp [sizeOf, typeInfo, hi, Addr.add_lit]
theorem OpSem.idx {t k : Nat} {x i : Operand} {rows : List (List D)} {kk : IntKind} {n : Int} {r : List D} (ho : o.op = .indexAddr t x i) (hx : opS e x = some (.d (.s k rows))) (hi : opS e i = some (.d (.v (.int kk n))))
  (ht : esz P t = some k) (h0 : 0 ≤ n) (hr : rows[n.toNat]? = some r) : OpSem P B o e M (.p r) none :=
 .value fun O H a w hs _ => by
  have hx' := hs x (by simp [ho, Op.operands]) _ hx
  have hi' := hs i (by simp [ho, Op.operands]) _ hi
  have hlt : n.toNat < rows.length := (List.getElem?_eq_some_iff.1 hr).1
  generalize hv : a.eval x = v at hx'
  generalize hu : a.eval i = u at hi'
  cases hi' with
  | d _ _ hi' =>
   cases hi' with
   | v _ =>
    cases hx' with
    | d _ _ hx' =>
     cases hx' with
     | e a' c k hm => simp at hlt
     | s b off c k rows y hc hm hw hO hy hrep =>
      have hl : r.length = k := hw r (List.mem_of_getElem? hr)
      refine ⟨.pointer (some ⟨b, off + n.toNat * k, none⟩), by simp [execOp, ho, hv, hu, run_idx ht h0 (by omega : n < (rows.length : Int))],
       .p b _ r (fun j => y (n.toNat * k + j)) (fun j d hd => hO _ _ _ _ hr hd) (fun j d hd => ?_) (fun j d hd => hrep _ _ _ _ hr hd)⟩
      rw [Nat.add_assoc]; exact hy _ _ _ _ hr hd
def nth {α : Type} [Inhabited α] (l : List α) (n : Int) : α := l.getD n.toNat default
theorem OpSem.idxL {t k : Nat} {x i : Operand} {kk : IntKind} {n : Int} {α : Type} [Inhabited α] {l : List α} {f : α → List D} (ho : o.op = .indexAddr t x i) (hx : opS e x = some (.d (.s k (l.map f)))) (hi : opS e i = some (.d (.v (.int kk n))))
  (ht : esz P t = some k) (h0 : 0 ≤ n) (h1 : n < l.length) : OpSem P B o e M (.p (f (nth l n))) none :=
 OpSem.idx ho hx hi ht h0 (by
  have : n.toNat < l.length := by omega
  simp [nth, this])
theorem OpSem.idxo {t k T h : Nat} {x i : Operand} {rows : List (List D)} {kk : IntKind} {n : Int} (ho : o.op = .indexAddr t x i) (hx : opS e x = some (.o h)) (hM : look M h = some (.own k T rows)) (hi : opS e i = some (.d (.v (.int kk n))))
  (ht : esz P t = some k) (h0 : 0 ≤ n) (h1 : n.toNat < rows.length) : OpSem P B o e M (.q h k n.toNat 0) none :=
 .value fun O H a w hs hm => by
  have hx' := hs x (by simp [ho, Op.operands]) _ hx
  have hi' := hs i (by simp [ho, Op.operands]) _ hi
  generalize hv : a.eval x = v at hx'
  generalize hu : a.eval i = u at hi'
  cases hi' with
  | d _ _ hi' =>
   cases hi' with
   | v _ =>
    cases hx' with
    | o h _ =>
     rcases hm h _ hM with ⟨_, h2⟩ | ⟨b', cap', xs, hH', _⟩
     ·subst h2; simp at h1
     ·refine ⟨.pointer (some ⟨b', n.toNat * k + 0, none⟩), ?_, .q h b' k n.toNat 0 _ _ hH'⟩
      rw [hH'] at hv
      simp [execOp, ho, hv, hu, run_idx ht h0 (by omega : n < (rows.length : Int))]
theorem OpSem.bin {op : BinOp} {t u : TypeId} {x y : Operand} {k : IntKind} {m n : Int} {z : Value} (ho : o.op = .binOp op t x y u) (hx : opS e x = some (.d (.v (.int k m)))) (hy : opS e y = some (.d (.v (.int k n))))
  (hz : binOp op t (.int k m) (.int k n) = pure z) : OpSem P B o e M (.d (.v z)) none :=
 .value fun O H a w hs _ => by
  have hx' := hs x (by simp [ho, Op.operands]) _ hx
  have hy' := hs y (by simp [ho, Op.operands]) _ hy
  generalize hv : a.eval x = v at hx'
  generalize hu : a.eval y = u at hy'
  cases hx' with
  | d _ _ hx' => cases hx' with
   | v _ => cases hy' with
    | d _ _ hy' => cases hy' with
     | v _ => exact ⟨z, by simp [execOp, ho, hv, hu, eqGuard_at_int, hz], .d _ _ (.v z)⟩
theorem OpSem.not {t : TypeId} {x : Operand} {b : Bool} (ho : o.op = .unOp .not t x) (hx : opS e x = some (.d (.v (.bool b)))) : OpSem P B o e M (.d (.v (.bool !b))) none :=
 .value fun O H a w hs _ => by
  have hx' := hs x (by simp [ho, Op.operands]) _ hx
  generalize hv : a.eval x = v at hx'
  cases hx' with
  | d _ _ hx' => cases hx' with
   | v _ => exact ⟨_, by simp [execOp, ho, hv, Op.unary], .d _ _ (.v _)⟩
theorem OpSem.pickT {c x y : Operand} {b : Bool} (ho : o.op = .pick c x y) (hc : opS e c = some (.d (.v (.bool b)))) (hb : b = true) (hx : opS e x = some s) : OpSem P B o e M s none :=
 .value fun O H a w hs _ => by
  have hc' := hs c (by simp [ho, Op.operands]) _ hc
  generalize hv : a.eval c = v at hc'
  cases hc' with
  | d _ _ hc' => cases hc' with
   | v _ => subst hb; exact ⟨a.eval x, by simp [execOp, ho, hv, asBool], hs x (by simp [ho, Op.operands]) _ hx⟩
theorem OpSem.pickF {c x y : Operand} {b : Bool} (ho : o.op = .pick c x y) (hc : opS e c = some (.d (.v (.bool b)))) (hb : b = false) (hy : opS e y = some s) : OpSem P B o e M s none :=
 .value fun O H a w hs _ => by
  have hc' := hs c (by simp [ho, Op.operands]) _ hc
  generalize hv : a.eval c = v at hc'
  cases hc' with
  | d _ _ hc' => cases hc' with
   | v _ => subst hb; exact ⟨a.eval y, by simp [execOp, ho, hv, asBool], hs y (by simp [ho, Op.operands]) _ hy⟩
theorem RepD.slice {O : Nat → Nat} {w : World} {x : Value} {k : Nat} {rows : List (List D)} (h : RepD O w x (.s k rows)) : ∃ a c, x = .slice a rows.length c ∧ rows.length ≤ c ∧ c ≤ maxLen := by
 cases h with
 | e a c k hm => exact ⟨a, c, rfl, by simp, hm⟩
 | s b off c k rows y hc hm => exact ⟨_, c, rfl, hc, hm⟩
theorem OpSem.lenL {x : Operand} {t k : Nat} {α : Type} {l : List α} {f : α → List D} (ho : o.op = .call { callee := .builtin .len, args := #[x], argTypes := #[t] }) (hx : opS e x = some (.d (.s k (l.map f)))) (ht : esz P t = some k) :
  OpSem P B o e M (.d (.v (.int .i64 l.length))) none :=
 .value fun O H a w hs _ => by
  have hx' := hs x (by simp [ho, Op.operands, Call.operands]) _ hx
  generalize hv : a.eval x = v at hx'
  cases hx' with
  | d _ _ hx' =>
   obtain ⟨a', c, rfl, _⟩ := hx'.slice
   exact ⟨_, by simp [execOp, ho, resolve, invoke, builtin, hv, run_len_slice w t _ _ _ _ (esz_spec ht).1, goInt], .d _ _ (.v _)⟩
theorem OpSem.leno {x : Operand} {t k T h : Nat} {rows : List (List D)} (ho : o.op = .call { callee := .builtin .len, args := #[x], argTypes := #[t] }) (hx : opS e x = some (.o h)) (hM : look M h = some (.own k T rows)) (ht : esz P t = some k) :
  OpSem P B o e M (.d (.v (.int .i64 rows.length))) none :=
 .value fun O H a w hs hm => by
  have hx' := hs x (by simp [ho, Op.operands, Call.operands]) _ hx
  generalize hv : a.eval x = v at hx'
  cases hx' with
  | o h _ =>
   rcases hm h _ hM with ⟨h0, rfl⟩ | ⟨b', cap', xs, hH', _⟩
   ·rw [h0] at hv
    exact ⟨_, by simp [execOp, ho, resolve, invoke, builtin, hv, run_len_slice w t _ _ _ _ (esz_spec ht).1, goInt], .d _ _ (.v _)⟩
   ·rw [hH'] at hv
    exact ⟨_, by simp [execOp, ho, resolve, invoke, builtin, hv, run_len_slice w t _ _ _ _ (esz_spec ht).1, goInt], .d _ _ (.v _)⟩
theorem OpSem.extract {x : Operand} {n : Nat} {l : List S} (ho : o.op = .extract x n) (hx : opS e x = some (.t l)) (hn : l[n]? = some s) : OpSem P B o e M s none :=
 .value fun O H a w hs _ => by
  have hx' := hs x (by simp [ho, Op.operands]) _ hx
  generalize hv : a.eval x = v at hx'
  cases hx' with
  | t xs ss hl h =>
   have hlt : n < xs.length := by rw [hl]; exact (List.getElem?_eq_some_iff.1 hn).1
   refine ⟨xs[n], ?_, h n _ _ (List.getElem?_eq_getElem hlt) hn⟩
   simp [execOp, ho, hv, Instr.extract, hlt]
end
end Go.Eng
end

section
namespace Go.Eng
def S.cells : S → Option (List S)
 | .g ss => some ss
 | .d x => if x.one then some [.d x] else none
 | .t _ | .a _ | .u => none
 | s => some [s]
theorem RepS.cells {O : Nat → Nat} {H : Nat → Value} {w : World} {x : Value} {s : S} {ss : List S} (h : RepS O H w x s) (hs : s.cells = some ss) :
  x.cells.size = ss.length ∧ ∀ (i : Nat) (s' : S), ss[i]? = some s' → ∃ y, x.cells[i]? = some y ∧ RepS O H w y s' ∧ y.oneCell' = true := by
 have one : ∀ (x : Value), x.oneCell' = true → x.cells = #[x] := by intro x hx; cases x <;> simp_all [Value.cells, Value.oneCell']
 have fin : ∀ (s : S), RepS O H w x s → x.oneCell' = true → ss = [s] → x.cells.size = ss.length ∧ ∀ (i : Nat) (s' : S), ss[i]? = some s' → ∃ y, x.cells[i]? = some y ∧ RepS O H w y s' ∧ y.oneCell' = true := by
  intro s hr h1 he
  subst he
  rw [one x h1]
  refine ⟨rfl, fun i s' hi => ?_⟩
  cases i with
  | zero => simp at hi; subst hi; exact ⟨x, rfl, hr, h1⟩
  | succ i => simp at hi
 have h' := h
 cases h with
 | d x y hd =>
  simp only [S.cells] at hs
  split at hs
  ·exact fin _ h' (hd.one' (by assumption)) (by simpa using hs.symm)
  ·cases hs
 | g xs ss' hl h1 hg =>
  simp only [S.cells, Option.some.injEq] at hs
  subst hs
  refine ⟨by simp [Value.cells, hl], fun i s' hi => ?_⟩
  have hlt : i < xs.length := by rw [hl]; exact (List.getElem?_eq_some_iff.1 hi).1
  exact ⟨xs[i], by simp [Value.cells, hlt], hg i _ _ (List.getElem?_eq_getElem hlt) hi, h1 _ (List.getElem_mem hlt)⟩
 | p => exact fin _ h' rfl (by simpa [S.cells] using hs.symm)
 | r => exact fin _ h' rfl (by simpa [S.cells] using hs.symm)
 | o h h1 => exact fin _ h' h1 (by simpa [S.cells] using hs.symm)
 | q => exact fin _ h' rfl (by simpa [S.cells] using hs.symm)
 | w => exact fin _ h' rfl (by simpa [S.cells] using hs.symm)
 | a => simp [S.cells] at hs
 | t => simp [S.cells] at hs
 | f => exact fin _ h' rfl (by simpa [S.cells] using hs.symm)
 | c => exact fin _ h' rfl (by simpa [S.cells] using hs.symm)
 | u => simp [S.cells] at hs
theorem Keep.alloc {O : Nat → Nat} {H : Nat → Value} {w : World} (ob : Obj) (h : Nat) (v : Value) :
  Keep none (some h) O H w (fun b => if b = w.heap.size then h + 1 else O b) (fun n => if n = h then v else H n) (w.alloc ob) :=
 ⟨fun b hb => by simp [Nat.ne_of_lt hb], fun b hb _ => Below.heap_alloc w ob b hb, fun n hn => by simp; intro e; subst e; exact (hn rfl).elim⟩
theorem Keep.alloc0 {O : Nat → Nat} {H : Nat → Value} {w : World} (ob : Obj) :
  Keep none none O H w (fun b => if b = w.heap.size then 0 else O b) H (w.alloc ob) :=
 ⟨fun b hb => by simp [Nat.ne_of_lt hb], fun b hb _ => Below.heap_alloc w ob b hb, fun n hn => rfl⟩
theorem heap_new (w : World) (ob : Obj) : (w.alloc ob).heap[w.heap.size]? = some ob := by
 show (w.heap.push ob)[w.heap.size]? = _
 simp
section
variable {P : Program} {B : Nat} {o : Oper} {e : Env} {M : Mem} {s : S}
theorem OpSem.box {t : TypeId} {x : Operand} {ss : List S} (h : Nat) (ho : o.op = .box t x) (hx : opS e x = some s) (hs : s.cells = some ss) (hk : ss.all (S.ok 9 h) = true) :
  OpSem P B o e M (.r h 0) (some (h, .box ss)) := by
 intro O H a w hB hsl hm K hK
 have hr := hsl x (by simp [ho, Op.operands]) _ hx
 obtain ⟨hsz, hc⟩ := hr.cells hs
 have hrun : (execOp a.eval o).run P w = .ok (.value (.pointer (some ⟨w.heap.size, 0, none⟩))) (w.alloc (.cells (a.eval x).cells t)) := by
  simp [execOp, ho, Instr.box, newVar, newRow]
 unfold Oper.wp
 rw [hrun]
 refine hK _ _ _ _ (Keep.alloc _ h (.pointer (some ⟨w.heap.size, 0, none⟩))) ((Below.refl _ _).alloc (Nat.le_refl _) _) (.r h w.heap.size 0 (by simp)) (fun h' m he => ?_)
 simp only [Option.some.injEq, Prod.mk.injEq] at he
 obtain ⟨rfl, rfl⟩ := he
 refine ⟨w.heap.size, (a.eval x).cells, t, by simp, hB, by simp, heap_new w _, hsz, fun i s' hi => ?_⟩
 obtain ⟨y, hy, hr', h1⟩ := hc i s' hi
 exact ⟨y, hy, hr'.mono (Keep.alloc _ h _) 9 (fun h' he => by cases he; exact List.all_eq_true.1 hk s' (List.mem_of_getElem? hi)) (.inr (by omega)), h1⟩
def zcells (P : Program) (t : TypeId) : Option (List Value) := (P.info? t).bind fun i => i.zero.map fun z => z.cells.toList
theorem run_zero {t : TypeId} {zs : List Value} (h : zcells P t = some zs) (w : World) : ∃ z, (zeroValue t).run P w = .ok z w ∧ z.cells = zs.toArray := by
 unfold zcells at h
 cases hi : P.info? t with
 | none => simp [hi] at h
 | some i =>
  cases hz : i.zero with
  | none => simp [hi, hz] at h
  | some z =>
   simp [hi, hz] at h
   subst h
   exact ⟨z, by simp [zeroValue, typeInfo, hi, hz], by simp⟩
theorem OpSem.alloc {t : TypeId} {zs : List Value} (h : Nat) (ho : o.op = .alloc t) (hz : zcells P t = some zs) (h1 : zs.all Value.oneCell' = true) :
  OpSem P B o e M (.r h 0) (some (h, .box (zs.map fun z => .d (.v z)))) := by
 intro O H a w hB hsl hm K hK
 obtain ⟨z, hz1, hz2⟩ := run_zero hz w
 have hrun : (execOp a.eval o).run P w = .ok (.value (.pointer (some ⟨w.heap.size, 0, none⟩))) (w.alloc (.cells zs.toArray t)) := by
  simp [execOp, ho, Instr.alloc, hz1, newVar, newRow, hz2]
 unfold Oper.wp
 rw [hrun]
 refine hK _ _ _ _ (Keep.alloc _ h (.pointer (some ⟨w.heap.size, 0, none⟩))) ((Below.refl _ _).alloc (Nat.le_refl _) _) (.r h w.heap.size 0 (by simp)) (fun h' m he => ?_)
 simp only [Option.some.injEq, Prod.mk.injEq] at he
 obtain ⟨rfl, rfl⟩ := he
 refine ⟨w.heap.size, zs.toArray, t, by simp, hB, by simp, heap_new w _, by simp, fun i s' hi => ?_⟩
 simp only [List.getElem?_map, Option.map_eq_some_iff] at hi
 obtain ⟨v, hv, rfl⟩ := hi
 exact ⟨v, by simpa using hv, .d _ _ (.v v), by rw [List.all_eq_true] at h1; exact h1 v (List.mem_of_getElem? hv)⟩
def fillS (places : Nat → Option (Nat × Nat)) : List S → List (Nat × S) → Option (List S)
 | cells, [] => some cells
 | cells, (i, s) :: rest => match places i, s.cells with
  | some (off, size), some ss => if ss.length = size ∧ off + size ≤ cells.length then fillS places (cells.take off ++ ss ++ cells.drop (off + size)) rest else none
  | _, _ => none
def RepC (O : Nat → Nat) (H : Nat → Value) (w : World) (xs : Array Value) (ss : List S) : Prop :=
 xs.size = ss.length ∧ ∀ (i : Nat) (s : S), ss[i]? = some s → ∃ y, xs[i]? = some y ∧ RepS O H w y s ∧ y.oneCell' = true
theorem foldl_set (off : Nat) : ∀ (l : List Value) (k : Nat) (cs : Array Value), off + k + l.length ≤ cs.size →
  ((l.zipIdx k).foldl (fun cs (p : Value × Nat) => cs.setIfInBounds (off + p.2) p.1) cs).size = cs.size ∧
  ∀ m, ((l.zipIdx k).foldl (fun cs (p : Value × Nat) => cs.setIfInBounds (off + p.2) p.1) cs)[m]? = if off + k ≤ m ∧ m < off + k + l.length then l[m - (off + k)]? else cs[m]?
 | [], k, cs, _ => by
  refine ⟨rfl, fun m => ?_⟩
  rw [if_neg (by simp)]
  rfl
 | v :: l, k, cs, h => by
  simp only [List.length_cons] at h
  have ih := foldl_set off l (k + 1) (cs.setIfInBounds (off + k) v) (by rw [Array.size_setIfInBounds]; omega)
  simp only [List.zipIdx_cons, List.foldl_cons, List.length_cons]
  refine ⟨by simpa using ih.1, fun m => ?_⟩
  rw [ih.2 m]
  by_cases h1 : m = off + k
  ·subst h1
   rw [if_neg (by omega), if_pos (by omega)]
   have hlt : off + k < cs.size := by omega
   simp [hlt]
  ·by_cases h2 : off + (k + 1) ≤ m ∧ m < off + (k + 1) + l.length
   ·rw [if_pos h2, if_pos (by omega)]
    obtain ⟨q, rfl⟩ : ∃ q, m = off + (k + 1) + q := ⟨m - (off + (k + 1)), by omega⟩
    have e1 : off + (k + 1) + q - (off + (k + 1)) = q := by omega
    have e2 : off + (k + 1) + q - (off + k) = q + 1 := by omega
    rw [e1, e2]
    simp
   ·rw [if_neg h2, if_neg (by omega), Array.getElem?_setIfInBounds_ne (by omega)]
theorem fill_rep {O : Nat → Nat} {H : Nat → Value} {w : World} {places : Nat → Option (Nat × Nat)} : ∀ (ps : List (Nat × Value)) (pS : List (Nat × S)) (cs : Array Value) (ss out : List S),
  ps.length = pS.length → (∀ (i : Nat) (p : Nat × Value) (q : Nat × S), ps[i]? = some p → pS[i]? = some q → p.1 = q.1 ∧ RepS O H w p.2 q.2) → RepC O H w cs ss → fillS places ss pS = some out →
  ∃ cs', Instr.fill places cs ps = some cs' ∧ RepC O H w cs' out
 | [], [], cs, ss, out, _, _, hc, h => by simp only [fillS, Option.some.injEq] at h; subst h; exact ⟨cs, rfl, hc⟩
 | [], _ :: _, _, _, _, hl, _, _, _ => by simp at hl
 | _ :: _, [], _, _, _, hl, _, _, _ => by simp at hl
 | (i, v) :: ps, (i', s) :: pS, cs, ss, out, hl, hp, hc, h => by
  obtain ⟨h1, h2⟩ := hp 0 _ _ rfl rfl
  simp only at h1 h2
  subst h1
  simp only [fillS] at h
  cases hpl : places i with
  | none => simp [hpl] at h
  | some q =>
   obtain ⟨off, size⟩ := q
   cases hsc : s.cells with
   | none => simp [hpl, hsc] at h
   | some vs =>
    simp only [hpl, hsc] at h
    split at h
    ·rename_i hcond
     obtain ⟨hvs, hle⟩ := hcond
     obtain ⟨hz, hcell⟩ := h2.cells hsc
     have hsz : v.cells.size = size := by omega
     obtain ⟨f1, f2⟩ := foldl_set off v.cells.toList 0 cs (by simp; rw [hc.1]; omega)
     have hfold : v.cells.zipIdx.foldl (fun cs (p : Value × Nat) => cs.setIfInBounds (off + p.2) p.1) cs = (v.cells.toList.zipIdx 0).foldl (fun cs (p : Value × Nat) => cs.setIfInBounds (off + p.2) p.1) cs := by
      rw [← Array.foldl_toList]; simp
     have hstep : RepC O H w (v.cells.zipIdx.foldl (fun cs (p : Value × Nat) => cs.setIfInBounds (off + p.2) p.1) cs) (ss.take off ++ vs ++ ss.drop (off + size)) := by
      rw [hfold]
      refine ⟨?_, fun m s' hm => ?_⟩
      ·rw [f1, hc.1]; simp; omega
      ·rw [f2 m]
       by_cases hin : off + 0 ≤ m ∧ m < off + 0 + v.cells.toList.length
       ·rw [if_pos hin]
        have hm' : vs[m - off]? = some s' := by
         rw [List.append_assoc, List.getElem?_append_right (by simp; omega), List.getElem?_append_left (by simp at hin ⊢; omega)] at hm
         simpa [Nat.min_eq_left (by omega : off ≤ ss.length)] using hm
        obtain ⟨y, hy, hr, ho⟩ := hcell _ _ hm'
        exact ⟨y, by simpa using hy, hr, ho⟩
       ·rw [if_neg hin]
        have hm' : ss[m]? = some s' := by
         simp only [Array.length_toList, Nat.add_zero] at hin
         by_cases hlo : m < off
         ·rw [List.append_assoc, List.getElem?_append_left (by simp; omega), List.getElem?_take_of_lt hlo] at hm
          exact hm
         ·rw [List.getElem?_append_right (by simp; omega), List.getElem?_drop] at hm
          rw [← hm]
          congr 1
          simp
          omega
        exact hc.2 m s' hm'
     obtain ⟨cs', hcs1, hcs2⟩ := fill_rep ps pS _ _ out (by simpa using hl) (fun j p q hj hq => hp (j + 1) p q (by simpa using hj) (by simpa using hq)) hstep h
     refine ⟨cs', ?_, hcs2⟩
     simp only [Instr.fill, hpl]
     rw [if_neg (by simp only [Bool.or_eq_true, decide_eq_true_eq, not_or, ne_eq, Decidable.not_not]; exact ⟨hsz, by rw [hc.1]; omega⟩)]
     exact hcs1
    ·cases h
def places (P : Program) (t : TypeId) : Option (List (Nat × Nat)) :=
 match P.underlying t with
 | some (.struct fs) => fs.toList.mapM fun f => (P.info? f.type).map fun i => (f.offset, i.size)
 | _ => none
def partsS (e : Env) : List (Nat × Operand) → Option (List (Nat × S))
 | [] => some []
 | (i, x) :: rest => match opS e x, partsS e rest with
  | some s, some l => some ((i, s) :: l)
  | _, _ => none
theorem partsS_rep {O : Nat → Nat} {H : Nat → Value} {w : World} {a : Act} : ∀ (ps : List (Nat × Operand)) (l : List (Nat × S)), partsS e ps = some l → (∀ p, p ∈ ps → ∀ s, opS e p.2 = some s → RepS O H w (a.eval p.2) s) →
  (ps.map fun p => (p.1, a.eval p.2)).length = l.length ∧ ∀ (i : Nat) (p : Nat × Value) (q : Nat × S), (ps.map fun p => (p.1, a.eval p.2))[i]? = some p → l[i]? = some q → p.1 = q.1 ∧ RepS O H w p.2 q.2
 | [], l, h, _ => by simp only [partsS, Option.some.injEq] at h; subst h; exact ⟨rfl, fun i p q h => by simp at h⟩
 | (i, x) :: ps, l, h, hs => by
  simp only [partsS] at h
  cases hx : opS e x with
  | none => simp [hx] at h
  | some s =>
   cases hl : partsS e ps with
   | none => simp [hx, hl] at h
   | some l' =>
    simp only [hx, hl, Option.some.injEq] at h
    subst h
    obtain ⟨ih1, ih2⟩ := partsS_rep ps l' hl (fun p hp => hs p (.tail _ hp))
    refine ⟨by simpa using ih1, fun j p q hj hq => ?_⟩
    cases j with
    | zero =>
     simp at hj hq
     subst hj; subst hq
     exact ⟨rfl, hs (i, x) (.head _) s hx⟩
    | succ j => exact ih2 j p q (by simpa using hj) (by simpa using hq)
theorem RepC.zero {O : Nat → Nat} {H : Nat → Value} {w : World} (zs : List Value) (h1 : zs.all Value.oneCell' = true) : RepC O H w zs.toArray (zs.map fun z => .d (.v z)) :=
 ⟨by simp, fun i s hi => by
  simp only [List.getElem?_map, Option.map_eq_some_iff] at hi
  obtain ⟨v, hv, rfl⟩ := hi
  exact ⟨v, by simpa using hv, .d _ _ (.v v), by rw [List.all_eq_true] at h1; exact h1 v (List.mem_of_getElem? hv)⟩⟩
theorem RepC.g {O : Nat → Nat} {H : Nat → Value} {w : World} {xs : Array Value} {ss : List S} (h : RepC O H w xs ss) : RepS O H w (.agg xs) (.g ss) := by
 have : xs = xs.toList.toArray := by simp
 rw [this]
 refine .g xs.toList ss (by simpa using h.1) (fun x hx => ?_) (fun i x s hx hs => ?_)
 ·obtain ⟨i, hi⟩ := List.getElem?_of_mem hx
  have hlt : i < ss.length := by rw [← h.1]; have := (List.getElem?_eq_some_iff.1 hi).1; simpa using this
  obtain ⟨y, hy, _, ho⟩ := h.2 i _ (List.getElem?_eq_getElem hlt)
  have : x = y := by simpa [hy] using hi.symm
  rw [this]; exact ho
 ·obtain ⟨y, hy, hr, _⟩ := h.2 i s hs
  have : x = y := by simpa [hy] using hx.symm
  rw [this]; exact hr
theorem OpSem.build {t : TypeId} {ps : Array (Nat × Operand)} {l : List (Nat × S)} {pl : List (Nat × Nat)} {zs : List Value} {ss : List S} (ho : o.op = .build t ps) (hp : partsS e ps.toList = some l) (hpl : places P t = some pl)
  (hz : zcells P t = some zs) (h1 : zs.all Value.oneCell' = true) (hf : fillS (pl[·]?) (zs.map fun z => .d (.v z)) l = some ss) : OpSem P B o e M (.g ss) none :=
 .value fun O H a w hs _ => by
  obtain ⟨q1, q2⟩ := partsS_rep (O := O) (H := H) (w := w) (a := a) ps.toList l hp (fun p hp s hs' => hs p.2 (by simp only [ho, Op.operands]; simpa using ⟨p.1, by simpa using hp⟩) s hs')
  obtain ⟨cs', hcs, hrep⟩ := fill_rep (places := (pl[·]?)) _ l zs.toArray _ ss q1 q2 (RepC.zero zs h1) hf
  obtain ⟨z, hz1, hz2⟩ := run_zero hz w
  refine ⟨.agg cs', ?_, hrep.g⟩
  unfold places at hpl
  cases hu : P.underlying t with
  | none => simp [hu] at hpl
  | some d =>
   cases d <;> simp only [hu] at hpl <;> try (cases hpl; done)
   case struct fields =>
    have hcs2 : Instr.fill (fun x => pl[x]?) zs.toArray (ps.toList.map fun p => (p.1, a.eval p.2)) = some cs' := hcs
    simp [execOp, ho, Instr.build, run_underlying hu, hz1, hz2, Array.mapM_eq_mapM_toList, run_places w _ _ hpl, hcs2]
end
end Go.Eng
end

section
namespace Go.Eng
def S.toD : S → Option D
 | .d x => some x
 | _ => none
def rowsOf (k : Nat) : Nat → List S → Option (List (List D))
 | 0, _ => some []
 | n + 1, ss => match (ss.take k).mapM S.toD, rowsOf k n (ss.drop k) with
  | some r, some rs => some (r :: rs)
  | _, _ => none
theorem rowsOf_spec (k : Nat) : ∀ (n : Nat) (ss : List S) (rows : List (List D)), n * k ≤ ss.length → rowsOf k n ss = some rows →
  rows.length = n ∧ (∀ r, r ∈ rows → r.length = k) ∧ ∀ (i : Nat) (r : List D) (j : Nat) (d : D), rows[i]? = some r → r[j]? = some d → ss[i * k + j]? = some (.d d)
 | 0, ss, rows, _, h => by simp only [rowsOf, Option.some.injEq] at h; subst h; exact ⟨rfl, fun r hr => by simp at hr, fun i r j d hi => by simp at hi⟩
 | n + 1, ss, rows, hl, h => by
  simp only [rowsOf] at h
  cases hr : (ss.take k).mapM S.toD with
  | none => simp [hr] at h
  | some r =>
   cases hrs : rowsOf k n (ss.drop k) with
   | none => simp [hr, hrs] at h
   | some rs =>
    simp only [hr, hrs, Option.some.injEq] at h
    subst h
    rw [Nat.succ_mul] at hl
    obtain ⟨i1, i2, i3⟩ := rowsOf_spec k n (ss.drop k) rs (by simp; omega) hrs
    have hm : ∀ (l : List S) (r : List D), l.mapM S.toD = some r → r.length = l.length ∧ ∀ (j : Nat) (d : D), r[j]? = some d → l[j]? = some (.d d) := by
     intro l
     induction l with
     | nil => intro r h; simp at h; subst h; exact ⟨rfl, fun j d h => by simp at h⟩
     | cons s l ih =>
      intro r h
      simp only [List.mapM_cons, Option.bind_eq_bind, Option.pure_def, Option.bind_eq_some_iff, Option.some.injEq] at h
      obtain ⟨d, hd, ds, hds, rfl⟩ := h
      obtain ⟨j1, j2⟩ := ih ds hds
      refine ⟨by simp [j1], fun j d' hj => ?_⟩
      cases j with
      | zero =>
       simp at hj
       subst hj
       cases s <;> simp [S.toD] at hd
       subst hd; rfl
      | succ j => exact j2 j d' (by simpa using hj)
    obtain ⟨m1, m2⟩ := hm _ _ hr
    refine ⟨by simp [i1], fun r' hr' => ?_, fun i r' j d hi hj => ?_⟩
    ·rcases List.mem_cons.1 hr' with rfl | hr'
     ·rw [m1]; simp; omega
     ·exact i2 r' hr'
    ·cases i with
     | zero =>
      simp at hi
      subst hi
      have := m2 j d hj
      have hjk : j < k := by
       have h1 := (List.getElem?_eq_some_iff.1 this).1
       simp at h1; omega
      rw [List.getElem?_take_of_lt hjk] at this
      simpa using this
     | succ i =>
      have := i3 i r' j d (by simpa using hi) hj
      rw [List.getElem?_drop] at this
      rw [← this]
      congr 1
      rw [Nat.succ_mul]; omega
section
variable {P : Program} {B : Nat} {o : Oper} {e : Env} {M : Mem} {s : S}
theorem run_sizeElem {t k : Nat} (h : esz P t = some k) (w : World) : (sizeOf (P.elem t)).run P w = .ok k w := by
 obtain ⟨_, i, hi, rfl⟩ := esz_spec h
 simp [sizeOf, typeInfo, hi]
theorem OpSem.buildSlice {t k len : Nat} {ps : Array (Nat × Operand)} {l : List (Nat × S)} {zs : List Value} {ss : List S} {rows : List (List D)} (ho : o.op = .buildSlice t len ps) (hp : partsS e ps.toList = some l) (hk : esz P t = some k)
  (hz : zcells P (P.elem t) = some zs) (h1 : zs.all Value.oneCell' = true) (hzk : zs.length = k) (hk0 : 0 < k) (hlen : len * k ≤ 2 ^ 24)
  (hf : fillS (fun i => some (i * k, k)) ((List.replicate len zs).flatten.map fun z => .d (.v z)) l = some ss) (hr : rowsOf k len ss = some rows) : OpSem P B o e M (.d (.s k rows)) none := by
 intro O H a w hB hs hm K hK
 obtain ⟨q1, q2⟩ := partsS_rep (O := O) (H := H) (w := w) (a := a) ps.toList l hp (fun p hp s hs' => hs p.2 (by simp only [ho, Op.operands]; simpa using ⟨p.1, by simpa using hp⟩) s hs')
 have hzz : ∀ (n : Nat), (List.replicate n zs).flatten.all Value.oneCell' = true := by
  intro n
  rw [List.all_eq_true] at h1 ⊢
  intro x hx
  rw [List.mem_flatten] at hx
  obtain ⟨r, hr, hx⟩ := hx
  rw [List.mem_replicate] at hr
  exact h1 x (hr.2 ▸ hx)
 have hz' := RepC.zero (O := O) (H := H) (w := w) ((List.replicate len zs).flatten) (hzz len)
 obtain ⟨cs', hcs, hrep⟩ := fill_rep (places := fun i => some (i * k, k)) _ l _ _ ss q1 q2 hz' hf
 obtain ⟨z, hz1, hz2⟩ := run_zero hz w
 have harr : (Array.range (len * k)).map (fun i => zs.toArray[i % zs.toArray.size]!) = ((List.replicate len zs).flatten).toArray := by
  apply Array.ext'
  simp only [Array.toList_map, Array.toList_range]
  clear hf hz' hcs hrep hlen ho hr
  induction len with
  | zero => simp
  | succ n ih =>
   rw [List.replicate_succ, List.flatten_cons]
   rw [Nat.succ_mul, Nat.add_comm, List.range_add, List.map_append, List.map_map]
   congr 1
   ·apply List.ext_getElem?
    intro i
    by_cases hi : i < k
    ·simp [hi, Nat.mod_eq_of_lt (by omega : i < zs.length), hzk, getElem!_def, List.getElem?_eq_getElem (by omega : i < zs.length), Nat.mod_eq_of_lt hi]
    ·rw [List.getElem?_eq_none (by simp; omega), List.getElem?_eq_none (by omega)]
   ·rw [← ih]
    apply List.map_congr_left
    intro i _
    simp [hzk]
 have hfill : Instr.fill (fun i => some (i * k, k)) ((Array.range (len * k)).map (fun i => zs.toArray[i % zs.toArray.size]!)) (ps.toList.map fun p => (p.1, a.eval p.2)) = some cs' := by rw [harr]; exact hcs
 have hfill' : Instr.fill (fun i => some (i * k, k)) ((Array.range (len * k)).map (fun i => z.cells[i % z.cells.size]!)) (ps.toList.map fun p => (p.1, a.eval p.2)) = some cs' := by rw [hz2]; exact hfill
 have hu := (esz_spec hk).1
 have hrun : (execOp a.eval o).run P w = .ok (.value (.slice (some ⟨w.heap.size, 0, none⟩) len len)) (w.alloc (.cells cs' (P.elem t))) := by
  by_cases hl0 : len * k = 0
  ·have hl : len = 0 := by rcases Nat.mul_eq_zero.1 hl0 with h | h; exact h; omega
   subst hl
   simp only [Nat.zero_mul, Array.range_zero', Array.map_empty] at hfill
   simp [execOp, ho, Instr.buildSlice, run_underlying hu, run_sizeElem hk, hl0, newRow, hfill, Array.range_zero']
  ·skip
   have h24 : ¬ 16777216 < len * k := by simpa using hlen
   simp [execOp, ho, Instr.buildSlice, run_underlying hu, run_sizeElem hk, hl0, hz1, newRow, hfill', h24]
 unfold Oper.wp
 rw [hrun]
 have hkeep := Keep.alloc0 (O := O) (H := H) (w := w) (.cells cs' (P.elem t))
 have hss : len * k ≤ ss.length := by
  rw [← hrep.1]
  have : cs'.size = ((List.replicate len zs).flatten.map fun z => S.d (.v z)).length := by
   have hfs : ∀ (l : List (Nat × S)) (c o : List S), fillS (fun i => some (i * k, k)) c l = some o → o.length = c.length := by
    intro l
    induction l with
    | nil => intro c o h; simp only [fillS, Option.some.injEq] at h; rw [h]
    | cons p l ih =>
     intro c o h
     obtain ⟨i, s⟩ := p
     simp only [fillS] at h
     split at h
     ·split at h
      ·rename_i hq _ hcond
       simp only [Option.some.injEq, Prod.mk.injEq] at hq
       obtain ⟨rfl, rfl⟩ := hq
       rw [ih _ _ h]; simp; omega
      ·cases h
     ·cases h
   rw [hrep.1]; exact hfs _ _ _ hf
  rw [this]; simp [hzk]
 obtain ⟨r1, r2, r3⟩ := rowsOf_spec k len ss rows hss hr
 have hcell : ∀ (i : Nat) (r : List D) (j : Nat) (d : D), rows[i]? = some r → r[j]? = some d → ∃ y, cs'[i * k + j]? = some y ∧ RepD O w y d := by
  intro i r j d hi hj
  obtain ⟨y, hy, hr', _⟩ := hrep.2 _ _ (r3 i r j d hi hj)
  cases hr' with
  | d _ _ hd => exact ⟨y, hy, hd⟩
 refine hK _ _ _ _ hkeep ((Below.refl _ _).alloc (Nat.le_refl _) _) (.d _ _ ?_) (fun h m he => by cases he)
 rw [← r1]
 refine .s w.heap.size 0 rows.length k rows (fun n => (cs'[n]?).getD undef) (Nat.le_refl _) (by rw [r1]; simp only [maxLen]; have := Nat.le_mul_of_pos_right len hk0; omega) r2 (fun _ _ _ _ _ _ => by simp) (fun i r j d hi hj => ?_) (fun i r j d hi hj => ?_)
 ·obtain ⟨y, hy, _⟩ := hcell i r j d hi hj
  rw [cellOf (heap_new w _) (by rw [Nat.zero_add]; exact hy)]
  simp [hy]
 ·obtain ⟨y, hy, hr'⟩ := hcell i r j d hi hj
  simp only [hy, Option.getD_some]
  exact hr'.mono hkeep.keeps
theorem OpSem.makeSlice {t k : Nat} {x y : Operand} {n : Int} {zs : List Value} {by_ : Nat} (h : Nat) (ho : o.op = .makeSlice t x y) (hx : opS e x = some (.d (.v (.int .i64 n)))) (hy : opS e y = some (.d (.v (.int .i64 n)))) (hk : esz P t = some k)
  (hz : zcells P (P.elem t) = some zs) (h1 : zs.all Value.oneCell' = true) (hzk : zs.length = k) (hk0 : 0 < k) (hby : P.bytesOf (P.elem t) = by_) (hn : 0 ≤ n) (hroom : by_ * n ≤ 2 ^ 48) (hmax : n ≤ 2 ^ 63 - 1) :
  OpSem P B o e M (.o h) (some (h, .own k (P.elem t) (List.replicate n.toNat (zs.map .v)))) := by
 intro O H a w hB hs hm K hK
 have hx' := hs x (by simp [ho, Op.operands]) _ hx
 have hy' := hs y (by simp [ho, Op.operands]) _ hy
 obtain ⟨z, hz1, hz2⟩ := run_zero hz w
 obtain ⟨hu, i, hi, hik⟩ := esz_spec hk
 have hbi : i.bytes = by_ := by simpa [Program.bytesOf, hi] using hby
 have hwrap : IntKind.i64.wrap n = n := IntWalk.i64_in _ ⟨by omega, by omega⟩
 have ex : a.eval x = .int .i64 n := by
  generalize a.eval x = v at hx'
  cases hx' with
  | d _ _ q => cases q with
   | v _ => rfl
 have ey : a.eval y = .int .i64 n := by
  generalize a.eval y = v at hy'
  cases hy' with
  | d _ _ q => cases q with
   | v _ => rfl
 obtain ⟨cs, hcs1, hcs2⟩ : ∃ cs : Array Value, (execOp a.eval o).run P w = .ok (.value (.slice (some ⟨w.heap.size, 0, none⟩) n.toNat n.toNat)) (w.alloc (.cells cs (P.elem t))) ∧ cs = (Array.range (n.toNat * k)).map (fun i => zs.toArray[i % zs.toArray.size]!) := by
  refine ⟨_, ?_, rfl⟩
  have hnb : ¬ ((by_ : Int) * n > 281474976710656) := by omega
  have hn0 : ¬ (n < 0) := by omega
  by_cases hl0 : n.toNat = 0
  ·simp only [execOp, ho, Instr.makeSlice, ex, ey]
   simp [run_underlying hu, asInt, asIntOf, hwrap, hn0, hnb, typeInfo, hi, hbi, hl0, newRow, Sem.run_bind, sizeOf, hik, Array.range_zero']
  ·simp only [execOp, ho, Instr.makeSlice, ex, ey]
   have : ¬ (n.toNat * k = 0) := by rw [Nat.mul_eq_zero, not_or]; exact ⟨hl0, by omega⟩
   simp [run_underlying hu, asInt, asIntOf, hwrap, hn0, hnb, typeInfo, hi, hbi, hl0, newRow, Sem.run_bind, sizeOf, hik, this, hz1, hz2]
 have hkeep := Keep.alloc (O := O) (H := H) (w := w) (.cells cs (P.elem t)) h (.slice (some ⟨w.heap.size, 0, none⟩) n.toNat n.toNat)
 unfold Oper.wp
 rw [hcs1]
 obtain ⟨H', hH'⟩ : ∃ H' : Nat → Value, H' = fun m => if m = h then (.slice (some ⟨w.heap.size, 0, none⟩) n.toNat n.toNat : Value) else H m := ⟨_, rfl⟩
 have hH : H' h = .slice (some ⟨w.heap.size, 0, none⟩) n.toNat n.toNat := by rw [hH']; simp
 rw [← hH'] at hkeep
 have ho' := RepS.o (O := fun b => if b = w.heap.size then h + 1 else O b) (w := w.alloc (.cells cs (P.elem t))) (H := H') h (by rw [hH]; rfl)
 rw [hH] at ho'
 refine hK _ _ _ _ hkeep ((Below.refl _ _).alloc (Nat.le_refl _) _) ho' (fun h' m he => ?_)
 simp only [Option.some.injEq, Prod.mk.injEq] at he
 obtain ⟨rfl, rfl⟩ := he
 refine .inr ⟨w.heap.size, n.toNat, cs, by rw [hH]; simp, hB, by simp, heap_new w _, by simp, by simp only [maxLen]; omega, by rw [hcs2]; simp, fun r hr => by rw [List.mem_replicate] at hr; rw [hr.2]; simp [hzk], fun i r j d hi hj => ?_⟩
 rw [List.getElem?_replicate] at hi
 split at hi
 ·rename_i hlt
  simp only [Option.some.injEq] at hi
  subst hi
  simp only [List.getElem?_map, Option.map_eq_some_iff] at hj
  obtain ⟨v, hv, rfl⟩ := hj
  have hjk : j < k := by rw [← hzk]; exact (List.getElem?_eq_some_iff.1 hv).1
  refine ⟨v, ?_, .v v, by rw [List.all_eq_true] at h1; exact h1 v (List.mem_of_getElem? hv)⟩
  have hlt2 : i * k + j < n.toNat * k := by
   calc i * k + j < i * k + k := by omega
    _ = (i + 1) * k := by rw [Nat.succ_mul]
    _ ≤ n.toNat * k := Nat.mul_le_mul_right k hlt
  have hmod : (i * k + j) % k = j := by rw [Nat.mul_comm, Nat.mul_add_mod]; exact Nat.mod_eq_of_lt hjk
  rw [hcs2]
  simp [hlt2, hzk, hmod, getElem!_def, hv]
 ·cases hi
def S.toDM (M : Mem) : S → Option D
 | .d x => some x
 | .o h => match look M h with
  | some (.own k _ rows) => some (.s k rows)
  | _ => none
 | _ => none
def S.view (M : Mem) : Nat → S → Option S
 | 0, _ => none
 | n + 1, s => match s with
  | .d x => some (.d x)
  | .p cs => some (.p cs)
  | .c k rows => some (.d (.s k rows))
  | .a K => some (.a K)
  | .g cs => (cs.mapM (S.view M n)).map .g
  | .t cs => (cs.mapM (S.view M n)).map .t
  | .f fn fs cs => match fs.mapM (S.view M n), cs.mapM (S.view M n) with
   | some fs', some cs' => some (.f fn fs' cs')
   | _, _ => none
  | .o h => match look M h with
   | some (.own k _ rows) => some (.d (.s k rows))
   | _ => none
  | .r h k => match look M h with
   | some (.box cs) => ((cs.drop k).mapM (S.toDM M)).map .p
   | _ => none
  | _ => none
theorem mapM_some {α β : Type} {f : α → Option β} : ∀ {l : List α} {r : List β}, l.mapM f = some r → r.length = l.length ∧ ∀ (i : Nat) (x : α) (y : β), l[i]? = some x → r[i]? = some y → f x = some y
 | [], r, h => by simp at h; subst h; exact ⟨rfl, fun i x y h => by simp at h⟩
 | a :: l, r, h => by
  simp only [List.mapM_cons, Option.bind_eq_bind, Option.pure_def, Option.bind_eq_some_iff, Option.some.injEq] at h
  obtain ⟨b, hb, bs, hbs, rfl⟩ := h
  obtain ⟨i1, i2⟩ := mapM_some hbs
  refine ⟨by simp [i1], fun i x y hx hy => ?_⟩
  cases i with
  | zero => simp at hx hy; subst hx; subst hy; exact hb
  | succ i => exact i2 i x y (by simpa using hx) (by simpa using hy)
def zO : Nat → Nat := fun _ => 0
def zH : Nat → Value := fun _ => undef
theorem RepS.ownD {O O' : Nat → Nat} {H : Nat → Value} {w : World} (hm : Mems O H B w M) (h0 : ∀ b, O b = 0 → O' b = 0) (hh : ∀ b h m, look M h = some m → B ≤ b → O b = h + 1 → O' b = 0) {h' k T : Nat} {rows : List (List D)} (hl : look M h' = some (.own k T rows)) : RepD O' w (H h') (.s k rows) := by
 have hk : Keeps O w O' w := fun b _ h => ⟨h0 b h, rfl⟩
 rcases hm h' _ hl with ⟨hnil, rfl⟩ | ⟨b, cap, xs, hH, hB', hO', hb, hlc, hcm, _, hw, hc⟩
 ·rw [hnil]; exact .e _ 0 _ (by simp [maxLen])
 ·rw [hH]
  refine .s b 0 cap k rows (fun n => (xs[n]?).getD undef) hlc hcm hw (fun _ _ _ _ _ _ => hh _ _ _ hl hB' hO') (fun i r j d hi hj => ?_) (fun i r j d hi hj => ?_)
  ·obtain ⟨x, hx, _⟩ := hc i r j d hi hj
   rw [cellOf hb (by rw [Nat.zero_add]; exact hx), hx]; rfl
  ·obtain ⟨x, hx, hr, _⟩ := hc i r j d hi hj
   simp only [hx, Option.getD_some]; exact (hr.mono hk)
theorem RepS.viewG {O O' : Nat → Nat} {H : Nat → Value} {w : World} (hm : Mems O H B w M) (h0 : ∀ b, O b = 0 → O' b = 0) (hh : ∀ b h m, look M h = some m → B ≤ b → O b = h + 1 → O' b = 0) : ∀ (n : Nat) {x : Value} {s s' : S}, RepS O H w x s → S.view M n s = some s' → RepS O' zH w x s'
 | 0, _, _, _, _, h => by simp [S.view] at h
 | n + 1, x, s, s', hr, h => by
  have hk : Keeps O w O' w := fun b _ h => ⟨h0 b h, rfl⟩
  have ih := fun {x : Value} {s s' : S} => RepS.viewG hm h0 hh n (x := x) (s := s) (s' := s')
  cases hr with
  | d x y hd => simp only [S.view, Option.some.injEq] at h; subst h; exact .d _ _ (hd.mono hk)
  | g xs ss hl h1 hg =>
   simp only [S.view, Option.map_eq_some_iff] at h
   obtain ⟨cs, hcs, rfl⟩ := h
   obtain ⟨m1, m2⟩ := mapM_some hcs
   refine .g xs cs (by rw [hl, m1]) h1 fun i x s hx hs => ?_
   have hlt : i < ss.length := by rw [← m1]; exact (List.getElem?_eq_some_iff.1 hs).1
   exact ih (hg i x _ hx (List.getElem?_eq_getElem hlt)) (m2 i _ _ (List.getElem?_eq_getElem hlt) hs)
  | p b off cs y hO hy hr =>
   simp only [S.view, Option.some.injEq] at h; subst h
   exact .p b off cs y (fun j d hd => h0 _ (hO j d hd)) hy (fun j d hd => ((hr j d hd).mono hk))
  | r h' b k hH =>
   simp only [S.view] at h
   cases hl : look M h' with
   | none => simp [hl] at h
   | some m =>
    cases m with
    | gone => simp [hl] at h
    | fr => simp [hl] at h
    | any => simp [hl] at h
    | own => simp [hl] at h
    | box cs =>
     simp only [hl, Option.map_eq_some_iff] at h
     obtain ⟨ds, hds, rfl⟩ := h
     obtain ⟨m1, m2⟩ := mapM_some hds
     obtain ⟨b', xs, T, hH', hB', hO', hb, hsz, hc⟩ := hm h' _ hl
     rw [hH] at hH'
     simp only [Value.pointer.injEq, Option.some.injEq, Addr.mk.injEq, and_true] at hH'
     subst hH'
     have key : ∀ (j : Nat) (d : D), ds[j]? = some d → ∃ x, xs[k + j]? = some x ∧ RepD O' w x d := by
      intro j d hd
      have hlt : j < (cs.drop k).length := by rw [← m1]; exact (List.getElem?_eq_some_iff.1 hd).1
      have hs := List.getElem?_eq_getElem hlt
      have hv := m2 j _ _ hs hd
      rw [List.getElem?_drop] at hs
      obtain ⟨x, hx, hr, _⟩ := hc _ _ hs
      refine ⟨x, hx, ?_⟩
      generalize (cs.drop k)[j] = s at hv hr
      cases s <;> simp only [S.toDM, Option.some.injEq, reduceCtorEq] at hv
      case d y =>
       subst hv
       cases hr with
       | d _ _ hd => exact hd.mono hk
      case o h2 =>
       cases hl2 : look M h2 with
       | none => simp [hl2] at hv
       | some m2 =>
        cases m2 with
        | gone => simp [hl2] at hv
        | fr => simp [hl2] at hv
        | any => simp [hl2] at hv
        | box => simp [hl2] at hv
        | own k2 T2 rows2 =>
         simp only [hl2, Option.some.injEq] at hv
         subst hv
         cases hr with
         | o _ _ => exact RepS.ownD hm h0 hh hl2
     refine .p b k ds (fun j => (xs[k + j]?).getD undef) (fun _ _ _ => hh _ _ _ hl hB' hO') (fun j d hd => ?_) (fun j d hd => ?_)
     ·obtain ⟨x, hx, _⟩ := key j d hd
      rw [cellOf hb hx, hx]; rfl
     ·obtain ⟨x, hx, hr⟩ := key j d hd
      simp only [hx, Option.getD_some]; exact hr
  | o h' h1 =>
   simp only [S.view] at h
   cases hl : look M h' with
   | none => simp [hl] at h
   | some m =>
    cases m with
    | gone => simp [hl] at h
    | fr => simp [hl] at h
    | any => simp [hl] at h
    | box => simp [hl] at h
    | own k T rows =>
     simp only [hl, Option.some.injEq] at h
     subst h
     exact .d _ _ (RepS.ownD hm h0 hh hl)
  | q => simp [S.view] at h
  | w => simp [S.view] at h
  | a x K hK => simp only [S.view, Option.some.injEq] at h; subst h; exact .a x K (K.mono _ _ _ _ _ hk hK)
  | t xs ss hl hg =>
   simp only [S.view, Option.map_eq_some_iff] at h
   obtain ⟨cs, hcs, rfl⟩ := h
   obtain ⟨m1, m2⟩ := mapM_some hcs
   refine .t xs cs (by rw [hl, m1]) fun i x s hx hs => ?_
   have hlt : i < ss.length := by rw [← m1]; exact (List.getElem?_eq_some_iff.1 hs).1
   exact ih (hg i x _ hx (List.getElem?_eq_getElem hlt)) (m2 i _ _ (List.getElem?_eq_getElem hlt) hs)
  | f fn xs ys fs cs hl hl' hg hg' =>
   simp only [S.view] at h
   cases hfs : fs.mapM (S.view M n) with
   | none => simp [hfs] at h
   | some fs' =>
    cases hcs : cs.mapM (S.view M n) with
    | none => simp [hfs, hcs] at h
    | some cs' =>
     simp only [hfs, hcs, Option.some.injEq] at h
     subst h
     obtain ⟨m1, m2⟩ := mapM_some hfs
     obtain ⟨n1, n2⟩ := mapM_some hcs
     refine .f fn xs ys fs' cs' (by rw [hl, m1]) (by rw [hl', n1]) (fun i x s hx hs => ?_) (fun i x s hx hs => ?_)
     ·have hlt : i < fs.length := by rw [← m1]; exact (List.getElem?_eq_some_iff.1 hs).1
      exact ih (hg i x _ hx (List.getElem?_eq_getElem hlt)) (m2 i _ _ (List.getElem?_eq_getElem hlt) hs)
     ·have hlt : i < cs.length := by rw [← n1]; exact (List.getElem?_eq_some_iff.1 hs).1
      exact ih (hg' i x _ hx (List.getElem?_eq_getElem hlt)) (n2 i _ _ (List.getElem?_eq_getElem hlt) hs)
  | c a k rows hd => simp only [S.view, Option.some.injEq] at h; subst h; exact .d _ _ (hd.mono hk)
  | u => simp [S.view] at h
theorem RepS.view {O : Nat → Nat} {H : Nat → Value} {w : World} (hm : Mems O H B w M) (n : Nat) {x : Value} {s s' : S} (h : RepS O H w x s) (hv : S.view M n s = some s') : RepS zO zH w x s' :=
 RepS.viewG hm (fun _ _ => rfl) (fun _ _ _ _ _ _ => rfl) n h hv
end
end Go.Eng
end

section
namespace Go.Eng
def ext (O : Nat → Nat) (B : Nat) : Nat → Nat := fun b => if b < B then O b else 0
def Fr (B : Nat) : Nat → Nat := fun b => if B ≤ b then 0 else 1
def freshO (fr : Bool) (O : Nat → Nat) (B : Nat) : Nat → Nat := bif fr then Fr B else ext O B
structure Does (P : Program) (fr : Bool) (f : Nat) (args : List S) (res : S) : Prop where
 can : ∀ xs w, (callFunc f xs).run P w = .ok (.enter f xs) w
 run : ∀ (O : Nat → Nat) (w : World) (xs : List Value), xs.length = args.length → (∀ (i : Nat) (x : Value) (s : S), xs[i]? = some x → args[i]? = some s → RepS O zH w x s) →
  Calls P f xs.toArray w fun en w' => ∃ x, en = .returned x ∧ Below w.heap.size w w' ∧ RepS (freshO fr O w.heap.size) zH w' x res
def S.flat : Nat → S → Bool
 | 0, _ => false
 | n + 1, s => match s with
  | .d (.v _) | .u => true
  | .g cs | .t cs => cs.all (S.flat n)
  | _ => false
theorem RepS.flat {O O' : Nat → Nat} {H H' : Nat → Value} {w w' : World} : ∀ (n : Nat) {x : Value} {s : S}, S.flat n s = true → RepS O H w x s → RepS O' H' w' x s
 | 0, _, _, h, _ => by simp [S.flat] at h
 | n + 1, x, s, h, hr => by
  cases hr with
  | d x y hd =>
   cases hd with
   | v x => exact .d _ _ (.v x)
   | e => simp [S.flat] at h
   | s => simp [S.flat] at h
  | g xs ss hl h1 hg =>
   simp only [S.flat, List.all_eq_true] at h
   exact .g xs ss hl h1 fun i x s hx hs => RepS.flat n (h s (List.mem_of_getElem? hs)) (hg i x s hx hs)
  | t xs ss hl hg =>
   simp only [S.flat, List.all_eq_true] at h
   exact .t xs ss hl fun i x s hx hs => RepS.flat n (h s (List.mem_of_getElem? hs)) (hg i x s hx hs)
  | u => exact .u x
  | p => simp [S.flat] at h
  | r => simp [S.flat] at h
  | o => simp [S.flat] at h
  | q => simp [S.flat] at h
  | w => simp [S.flat] at h
  | a => simp [S.flat] at h
  | f => simp [S.flat] at h
  | c => simp [S.flat] at h
theorem RepS.anyH {O : Nat → Nat} {w : World} {x : Value} {s : S} (hr : RepS O zH w x s) (H : Nat → Value) : RepS O H w x s := by
 induction hr with
 | d x y h => exact .d x y h
 | g xs ss hl h1 h ih => exact .g xs ss hl h1 ih
 | p b off cs y hO hy hr => exact .p b off cs y hO hy hr
 | r h b k hH => simp [zH, undef] at hH
 | o h h1 => simp [zH, undef, Value.oneCell'] at h1
 | q h b k i j len cap hH => simp [zH, undef] at hH
 | w h b k lo len L C hH hl => simp [zH, undef] at hH
 | a x K h => exact .a x K h
 | t xs ss hl h ih => exact .t xs ss hl ih
 | f fn xs ys fs cs hl hl' h h' ih ih' => exact .f fn xs ys fs cs hl hl' ih ih'
 | c a k rows h => exact .c a k rows h
 | u x => exact .u x
theorem RepS.keeps {O O' : Nat → Nat} {H : Nat → Value} {w w' : World} (k : Keeps O w O' w') {x : Value} {s : S} (hr : RepS O H w x s) : RepS O' H w' x s := by
 induction hr with
 | d x y h => exact .d x y (h.mono k)
 | g xs ss hl h1 h ih => exact .g xs ss hl h1 ih
 | p b off cs y hO hy hr =>
  refine .p b off cs y (fun j d hd => ?_) (fun j d hd => ?_) (fun j d hd => (hr j d hd).mono k)
  ·exact (k b (World.block_lt_of_cell? w _ (hy j d hd)) (hO j d hd)).1
  ·exact k.cell (hO j d hd) (hy j d hd)
 | r h b k hH => exact .r h b k hH
 | o h h1 => exact .o h h1
 | q h b k i j len cap hH => exact .q h b k i j len cap hH
 | w h b k lo len L C hH hl => exact .w h b k lo len L C hH hl
 | a x K h => exact .a x K (K.mono _ _ _ _ _ k h)
 | t xs ss hl h ih => exact .t xs ss hl ih
 | f fn xs ys fs cs hl hl' h h' ih ih' => exact .f fn xs ys fs cs hl hl' ih ih'
 | c a kk rows h => exact .c a kk rows (h.mono k)
 | u x => exact .u x
theorem RepS.view0 {O : Nat → Nat} {H : Nat → Value} {w : World} : ∀ (n : Nat) {x : Value} {s s' : S}, RepS O H w x s → S.view [] n s = some s' → RepS O zH w x s'
 | 0, _, _, _, _, h => by simp [S.view] at h
 | n + 1, x, s, s', hr, h => by
  have ih := fun {x : Value} {s s' : S} => RepS.view0 (O := O) (H := H) (w := w) n (x := x) (s := s) (s' := s')
  cases hr with
  | d x y hd => simp only [S.view, Option.some.injEq] at h; subst h; exact .d _ _ hd
  | g xs ss hl h1 hg =>
   simp only [S.view, Option.map_eq_some_iff] at h
   obtain ⟨cs, hcs, rfl⟩ := h
   obtain ⟨m1, m2⟩ := mapM_some hcs
   refine .g xs cs (by rw [hl, m1]) h1 fun i x s hx hs => ?_
   have hlt : i < ss.length := by rw [← m1]; exact (List.getElem?_eq_some_iff.1 hs).1
   exact ih (hg i x _ hx (List.getElem?_eq_getElem hlt)) (m2 i _ _ (List.getElem?_eq_getElem hlt) hs)
  | p b off cs y hO hy hr => simp only [S.view, Option.some.injEq] at h; subst h; exact .p b off cs y hO hy hr
  | r h' b k hH => simp [S.view, look] at h
  | o h' h1 => simp [S.view, look] at h
  | q => simp [S.view] at h
  | w => simp [S.view] at h
  | a x K hK => simp only [S.view, Option.some.injEq] at h; subst h; exact .a x K hK
  | t xs ss hl hg =>
   simp only [S.view, Option.map_eq_some_iff] at h
   obtain ⟨cs, hcs, rfl⟩ := h
   obtain ⟨m1, m2⟩ := mapM_some hcs
   refine .t xs cs (by rw [hl, m1]) fun i x s hx hs => ?_
   have hlt : i < ss.length := by rw [← m1]; exact (List.getElem?_eq_some_iff.1 hs).1
   exact ih (hg i x _ hx (List.getElem?_eq_getElem hlt)) (m2 i _ _ (List.getElem?_eq_getElem hlt) hs)
  | f fn xs ys fs cs hl hl' hg hg' =>
   simp only [S.view] at h
   cases hfs : fs.mapM (S.view [] n) with
   | none => simp [hfs] at h
   | some fs' =>
    cases hcs : cs.mapM (S.view [] n) with
    | none => simp [hfs, hcs] at h
    | some cs' =>
     simp only [hfs, hcs, Option.some.injEq] at h
     subst h
     obtain ⟨m1, m2⟩ := mapM_some hfs
     obtain ⟨n1, n2⟩ := mapM_some hcs
     refine .f fn xs ys fs' cs' (by rw [hl, m1]) (by rw [hl', n1]) (fun i x s hx hs => ?_) (fun i x s hx hs => ?_)
     ·have hlt : i < fs.length := by rw [← m1]; exact (List.getElem?_eq_some_iff.1 hs).1
      exact ih (hg i x _ hx (List.getElem?_eq_getElem hlt)) (m2 i _ _ (List.getElem?_eq_getElem hlt) hs)
     ·have hlt : i < cs.length := by rw [← n1]; exact (List.getElem?_eq_some_iff.1 hs).1
      exact ih (hg' i x _ hx (List.getElem?_eq_getElem hlt)) (n2 i _ _ (List.getElem?_eq_getElem hlt) hs)
  | c a k rows hd => simp only [S.view, Option.some.injEq] at h; subst h; exact .d _ _ hd
  | u => simp [S.view] at h
def Le (s s' : S) : Prop := ∀ (O : Nat → Nat) (H : Nat → Value) (w : World) (x : Value), RepS O H w x s → RepS O H w x s'
theorem Le.refl (s : S) : Le s s := fun _ _ _ _ h => h
theorem Le.of_eq {s s' : S} (h : s = s') : Le s s' := h ▸ .refl s
theorem Le.nil (k : Nat) : Le (.d (.v (.slice none 0 0))) (.d (.s k [])) := fun O H w x h => by
 cases h with
 | d _ _ q => cases q with
  | v _ => exact .d _ _ (.e none 0 k (by simp [maxLen]))
theorem Le.u (s : S) : Le s .u := fun _ _ _ x _ => .u x
inductive Les : List S → List S → Prop
 | nil : Les [] []
 | cons {s s' : S} {l l' : List S} (h : Le s s') (t : Les l l') : Les (s :: l) (s' :: l')
theorem Les.refl : ∀ l, Les l l
 | [] => .nil
 | s :: l => .cons (.refl s) (Les.refl l)
theorem Les.get : ∀ {l l' : List S}, Les l l' → l.length = l'.length ∧ ∀ (i : Nat) (s s' : S), l[i]? = some s → l'[i]? = some s' → Le s s'
 | _, _, .nil => ⟨rfl, fun i s s' h => by simp at h⟩
 | _, _, .cons h t => by
  obtain ⟨h1, h2⟩ := t.get
  refine ⟨by simp [h1], fun i s s' hs hs' => ?_⟩
  cases i with
  | zero => simp at hs hs'; subst hs; subst hs'; exact h
  | succ i => exact h2 i s s' (by simpa using hs) (by simpa using hs')
theorem Le.g {l l' : List S} (h : Les l l') : Le (.g l) (.g l') := fun O H w x hr => by
 obtain ⟨h1, h2⟩ := h.get
 cases hr with
 | g xs ss hl ho hg =>
  refine .g xs l' (by rw [hl, h1]) ho fun i x s hx hs => ?_
  have hlt : i < l.length := by rw [h1]; exact (List.getElem?_eq_some_iff.1 hs).1
  exact h2 i _ _ (List.getElem?_eq_getElem hlt) hs O H w x (hg i x _ hx (List.getElem?_eq_getElem hlt))
theorem Le.t {l l' : List S} (h : Les l l') : Le (.t l) (.t l') := fun O H w x hr => by
 obtain ⟨h1, h2⟩ := h.get
 cases hr with
 | t xs ss hl hg =>
  refine .t xs l' (by rw [hl, h1]) fun i x s hx hs => ?_
  have hlt : i < l.length := by rw [h1]; exact (List.getElem?_eq_some_iff.1 hs).1
  exact h2 i _ _ (List.getElem?_eq_getElem hlt) hs O H w x (hg i x _ hx (List.getElem?_eq_getElem hlt))
theorem Le.d {x y : D} (h : x = y) : Le (.d x) (.d y) := h ▸ .refl _
def opsS (e : Env) : List Operand → Option (List S)
 | [] => some []
 | x :: xs => match opS e x, opsS e xs with
  | some s, some l => some (s :: l)
  | _, _ => none
theorem opsS_rep {e : Env} {O : Nat → Nat} {H : Nat → Value} {w : World} {a : Act} : ∀ (xs : List Operand) (l : List S), opsS e xs = some l → (∀ x, x ∈ xs → ∀ s, opS e x = some s → RepS O H w (a.eval x) s) →
  xs.length = l.length ∧ ∀ (i : Nat) (x : Value) (s : S), (xs.map a.eval)[i]? = some x → l[i]? = some s → RepS O H w x s
 | [], l, h, _ => by simp only [opsS, Option.some.injEq] at h; subst h; exact ⟨rfl, fun i x s h => by simp at h⟩
 | y :: xs, l, h, hs => by
  simp only [opsS] at h
  cases hx : opS e y with
  | none => simp [hx] at h
  | some s =>
   cases hl : opsS e xs with
   | none => simp [hx, hl] at h
   | some l' =>
    simp only [hx, hl, Option.some.injEq] at h
    subst h
    obtain ⟨i1, i2⟩ := opsS_rep xs l' hl (fun x hx => hs x (.tail _ hx))
    refine ⟨by simp [i1], fun i x s' hi hs' => ?_⟩
    cases i with
    | zero => simp at hi hs'; subst hi; subst hs'; exact hs y (.head _) s hx
    | succ i => exact i2 i x s' (by simpa using hi) (by simpa using hs')
theorem Keep.ext {O : Nat → Nat} {H : Nat → Value} {w w' : World} (hb : Below w.heap.size w w') : Keep none none O H w (ext O w.heap.size) H w' :=
 ⟨fun b hlt => by simp [Eng.ext, hlt], fun b hlt _ => hb.block b hlt, fun _ _ => rfl⟩
theorem Fr_ext {O : Nat → Nat} {B : Nat} {w : World} : Keeps (Fr B) w (ext O B) w := fun b _ h => by
 unfold Fr at h
 split at h
 ·exact ⟨by simp [ext]; omega, rfl⟩
 ·cases h
section
variable {P : Program} {B : Nat} {o : Oper} {e : Env} {M : Mem} {s : S}
theorem run_call {fn : Nat} {xs ys zs : List Value} (can : ∀ xs w, (callFunc fn xs).run P w = .ok (.enter fn xs) w) (a : Act) (w : World) (g : Operand) (as_ : Array Operand) (ts : Array TypeId)
  (ho : o.op = .call { callee := .value g, args := as_, argTypes := ts }) (hg : a.eval g = .func (.func fn) xs.toArray zs.toArray) (ha : as_.toList.map a.eval = ys) :
  (execOp a.eval o).run P w = .ok (.enter fn (xs ++ ys ++ zs).toArray) w := by
 have : as_.map a.eval = ys.toArray := by rw [← ha]; apply Array.ext'; simp
 simp [execOp, ho, resolve, hg, Deferred.ofValue, invoke, this, can]
theorem rep_app {O : Nat → Nat} {H : Nat → Value} {w : World} {xs ys : List Value} {fs gs : List S} (hl : xs.length = fs.length) (h : ∀ (i : Nat) (x : Value) (s : S), xs[i]? = some x → fs[i]? = some s → RepS O H w x s)
  (h' : ∀ (i : Nat) (x : Value) (s : S), ys[i]? = some x → gs[i]? = some s → RepS O H w x s) : ∀ (i : Nat) (x : Value) (s : S), (xs ++ ys)[i]? = some x → (fs ++ gs)[i]? = some s → RepS O H w x s := by
 intro i x s hx hs
 by_cases hi : i < xs.length
 ·rw [List.getElem?_append_left hi] at hx
  rw [List.getElem?_append_left (by omega)] at hs
  exact h i x s hx hs
 ·rw [List.getElem?_append_right (by omega)] at hx
  rw [List.getElem?_append_right (by omega)] at hs
  rw [← hl] at hs
  exact h' _ x s hx hs
theorem OpSem.call {g : Operand} {as_ : Array Operand} {ts : Array TypeId} {fn : Nat} {fs cs l args args' : List S} {res : S} {fr : Bool}
  (hspec : Does P fr fn args res) (hres : fr = true ∨ S.flat 9 res = true)
  (ho : o.op = .call { callee := .value g, args := as_, argTypes := ts }) (hg : opS e g = some (.f fn fs cs)) (ha : opsS e as_.toList = some l)
  (hv : (fs ++ l ++ cs).mapM (S.view M 9) = some args') (hle : Les args' args) : OpSem P B o e M res none := by
 intro O H a w hB hs hm K hK
 have hg' := hs g (by simp [ho, Op.operands, Call.operands]) _ hg
 generalize hgv : a.eval g = gv at hg'
 cases hg' with
 | f _ xs ys _ _ hl hl' hx hy =>
  obtain ⟨a1, a2⟩ := opsS_rep (O := O) (H := H) (w := w) (a := a) as_.toList l ha (fun x hx s hs' => hs x (by simp only [ho, Op.operands, Call.operands]; simpa using .inr (by simpa using hx)) s hs')
  have hrun := run_call (o := o) hspec.can a w g as_ ts ho hgv rfl
  have hrep := rep_app (by rw [List.length_append, List.length_append, hl, List.length_map, a1]) (rep_app hl hx a2) hy
  obtain ⟨m1, m2⟩ := mapM_some hv
  obtain ⟨q1, q2⟩ := hle.get
  have hlen : (xs ++ as_.toList.map a.eval ++ ys).length = (fs ++ l ++ cs).length := by simp only [List.length_append, List.length_map, hl, hl', a1]
  unfold Oper.wp
  rw [hrun]
  refine (hspec.run zO w _ (by rw [hlen, ← m1, q1]) (fun i x s hi hs' => ?_)).mono ?_
  ·have hlt' : i < args'.length := by rw [q1]; exact (List.getElem?_eq_some_iff.1 hs').1
   have hlt : i < (fs ++ l ++ cs).length := by rw [← m1]; exact hlt'
   exact q2 i _ _ (List.getElem?_eq_getElem hlt') hs' _ _ _ _ (RepS.view hm 9 (hrep i x _ hi (List.getElem?_eq_getElem hlt)) (m2 i _ _ (List.getElem?_eq_getElem hlt) (List.getElem?_eq_getElem hlt')))
  ·rintro en w' ⟨x, rfl, hb, hr⟩
   refine hK (ext O w.heap.size) H w' x (Keep.ext hb) hb ?_ (fun _ _ h => by cases h)
   rcases hres with rfl | hf
   ·exact ((show RepS (Fr w.heap.size) zH w' x res from hr).keeps Fr_ext).anyH H
   ·exact hr.flat 9 hf
theorem OpSem.call0 {g : Operand} {as_ : Array Operand} {ts : Array TypeId} {fn : Nat} {fs cs l args args' : List S} {res : S} {fr : Bool}
  (hspec : Does P fr fn args res)
  (ho : o.op = .call { callee := .value g, args := as_, argTypes := ts }) (hg : opS e g = some (.f fn fs cs)) (ha : opsS e as_.toList = some l)
  (hv : (fs ++ l ++ cs).mapM (S.view [] 9) = some args') (hle : Les args' args) : OpSem P B o e M res none := by
 intro O H a w hB hs hm K hK
 have hg' := hs g (by simp [ho, Op.operands, Call.operands]) _ hg
 generalize hgv : a.eval g = gv at hg'
 cases hg' with
 | f _ xs ys _ _ hl hl' hx hy =>
  obtain ⟨a1, a2⟩ := opsS_rep (O := O) (H := H) (w := w) (a := a) as_.toList l ha (fun x hx s hs' => hs x (by simp only [ho, Op.operands, Call.operands]; simpa using .inr (by simpa using hx)) s hs')
  have hrun := run_call (o := o) hspec.can a w g as_ ts ho hgv rfl
  have hrep := rep_app (by rw [List.length_append, List.length_append, hl, List.length_map, a1]) (rep_app hl hx a2) hy
  obtain ⟨m1, m2⟩ := mapM_some hv
  obtain ⟨q1, q2⟩ := hle.get
  have hlen : (xs ++ as_.toList.map a.eval ++ ys).length = (fs ++ l ++ cs).length := by simp only [List.length_append, List.length_map, hl, hl', a1]
  unfold Oper.wp
  rw [hrun]
  refine (hspec.run O w _ (by rw [hlen, ← m1, q1]) (fun i x s hi hs' => ?_)).mono ?_
  ·have hlt' : i < args'.length := by rw [q1]; exact (List.getElem?_eq_some_iff.1 hs').1
   have hlt : i < (fs ++ l ++ cs).length := by rw [← m1]; exact hlt'
   exact q2 i _ _ (List.getElem?_eq_getElem hlt') hs' _ _ _ _ (RepS.view0 9 (hrep i x _ hi (List.getElem?_eq_getElem hlt)) (m2 i _ _ (List.getElem?_eq_getElem hlt) (List.getElem?_eq_getElem hlt')))
  ·rintro en w' ⟨x, rfl, hb, hr⟩
   refine hK (ext O w.heap.size) H w' x (Keep.ext hb) hb ?_ (fun _ _ h => by cases h)
   cases fr with
   | true => exact ((show RepS (Fr w.heap.size) zH w' x res from hr).keeps Fr_ext).anyH H
   | false => exact (show RepS (ext O w.heap.size) zH w' x res from hr).anyH H
theorem OpSem.makeFunc {fn : Nat} {xs ys : Array Operand} {fs cs : List S} (ho : o.op = .makeFunc (.func fn) xs ys) (hx : opsS e xs.toList = some fs) (hy : opsS e ys.toList = some cs) : OpSem P B o e M (.f fn fs cs) none :=
 .value fun O H a w hs _ => by
  obtain ⟨a1, a2⟩ := opsS_rep (O := O) (H := H) (w := w) (a := a) xs.toList fs hx (fun x hx s hs' => hs x (by simp only [ho, Op.operands]; simpa using .inl (by simpa using hx)) s hs')
  obtain ⟨b1, b2⟩ := opsS_rep (O := O) (H := H) (w := w) (a := a) ys.toList cs hy (fun x hx s hs' => hs x (by simp only [ho, Op.operands]; simpa using .inr (by simpa using hx)) s hs')
  refine ⟨.func (.func fn) (xs.toList.map a.eval).toArray (ys.toList.map a.eval).toArray, ?_, .f fn _ _ fs cs (by simpa using a1) (by simpa using b1) a2 b2⟩
  have h1 : xs.map a.eval = (xs.toList.map a.eval).toArray := by apply Array.ext'; simp
  have h2 : ys.map a.eval = (ys.toList.map a.eval).toArray := by apply Array.ext'; simp
  simp only [execOp, ho, Instr.makeFunc, h1, h2]
  simp
def intsOf (P : Program) (t : TypeId) (n : Nat) : Bool :=
 match P.underlying t with
 | some (.struct fs) => !P.stoodInHeld t && !P.eqGuardType P.depth t && fs.size == n && fs.toList.zipIdx.all fun (f, i) => f.name != "_" && f.offset == i && vsz P f.type == some (false, 1) && (match P.underlying f.type with | some (.int _) => true | _ => false)
 | _ => false
theorem eqFields_ints (d : Nat) (xs ys : List Int) (w : World) : ∀ (fs : List Field) (k : Nat), k + fs.length = xs.length → xs.length = ys.length →
  (fs.zipIdx k).all (fun (f, i) => f.name != "_" && f.offset == i && vsz P f.type == some (false, 1) && (match P.underlying f.type with | some (.int _) => true | _ => false)) = true →
  (Op.eqFields (d + 1) (xs.map (Value.int .i64)).toArray (ys.map (Value.int .i64)).toArray fs).run P w = .ok (xs.drop k == ys.drop k) w
 | [], k, h1, h2, _ => by
  have e1 : xs.drop k = [] := List.drop_eq_nil_of_le (by simp at h1; omega)
  have e2 : ys.drop k = [] := List.drop_eq_nil_of_le (by simp at h1; omega)
  simp [Op.eqFields, e1, e2]
 | f :: fs, k, h1, h2, h3 => by
  simp only [List.length_cons] at h1
  simp only [List.zipIdx_cons, List.all_cons, Bool.and_eq_true, beq_iff_eq, bne_iff_ne] at h3
  obtain ⟨⟨⟨⟨n1, n2⟩, n3⟩, n4⟩, h3⟩ := h3
  have ih := eqFields_ints d xs ys w fs (k + 1) (by omega) h2 h3
  have hp : ∀ (zs : List Int), k < zs.length → (part f.type (zs.map (Value.int .i64)).toArray f.offset).run P w = .ok (.int .i64 (zs.getD k 0)) w := by
   intro zs hz
   have : (zs.map (Value.int .i64)).toArray[f.offset]? = some (.int .i64 (zs.getD k 0)) := by
    rw [n2]; simp [hz]
   simp [part, (run_isAgg n3 w).1, this]
  obtain ⟨kk, hk⟩ : ∃ kk, P.underlying f.type = some (.int kk) := by
   revert n4
   cases P.underlying f.type with
   | none => intro h; cases h
   | some d => cases d <;> intro h <;> first | exact ⟨_, rfl⟩ | cases h
  have hd : xs.drop k = xs.getD k 0 :: xs.drop (k + 1) := by
   rw [List.drop_eq_getElem_cons (by omega)]; simp [List.getD_eq_getElem?_getD, List.getElem?_eq_getElem (by omega : k < xs.length)]
  have hd' : ys.drop k = ys.getD k 0 :: ys.drop (k + 1) := by
   rw [List.drop_eq_getElem_cons (by omega)]; simp [List.getD_eq_getElem?_getD, List.getElem?_eq_getElem (by omega : k < ys.length)]
  rw [hd, hd']
  simp only [Op.eqFields, if_pos n1, Sem.run_bind, hp xs (by omega), hp ys (by omega), Result.andThen_ok, run_equalIn_int w d f.type .i64 kk _ _ hk, Sem.run_ite, ih, Sem.run_pure]
  generalize xs.getD k 0 = p
  generalize ys.getD k 0 = q
  by_cases he : p = q
  ·simp [he]
  ·simp [he]
theorem rep_ints {O : Nat → Nat} {H : Nat → Value} {w : World} {v : Value} {xs : List Int} (h : RepS O H w v (.g (xs.map fun n => .d (.v (.int .i64 n))))) : v = .agg (xs.map (Value.int .i64)).toArray := by
 cases h with
 | g zs _ hl _ hg =>
  congr 1
  congr 1
  apply List.ext_getElem?
  intro i
  by_cases hi : i < zs.length
  ·have := hg i _ _ (List.getElem?_eq_getElem hi) (by rw [List.getElem?_map, List.getElem?_eq_getElem (by simpa [hl] using hi)]; rfl)
   generalize hz : zs[i] = z at this
   cases this with
   | d _ _ q =>
    cases q with
    | v _ => rw [List.getElem?_eq_getElem hi, hz, List.getElem?_map, List.getElem?_eq_getElem (by simpa [hl] using hi)]; rfl
  ·rw [List.getElem?_eq_none (by omega), List.getElem?_eq_none (by simp at hl ⊢; omega)]
theorem run_eq_ints {t n : Nat} {xs ys : List Int} (ht : intsOf P t n = true) (hx : xs.length = n) (hy : ys.length = n) (w : World) :
  (binOp .eql t (.agg (xs.map (Value.int .i64)).toArray) (.agg (ys.map (Value.int .i64)).toArray)).run P w = .ok (.bool (xs == ys)) w ∧
  (binOp .neq t (.agg (xs.map (Value.int .i64)).toArray) (.agg (ys.map (Value.int .i64)).toArray)).run P w = .ok (.bool (!(xs == ys))) w ∧ P.eqGuardType P.depth t = false := by
 unfold intsOf at ht
 cases hu : P.underlying t with
 | none => simp [hu] at ht
 | some d =>
  cases d <;> simp only [hu] at ht <;> try (cases ht; done)
  case struct fs =>
   simp only [Bool.and_eq_true, Bool.not_eq_true', beq_iff_eq] at ht
   obtain ⟨⟨⟨h1, h2⟩, h3⟩, h4⟩ := ht
   have hf : P.fieldsOf t = fs := by simp [Program.fieldsOf, hu]
   have hr := run_equalIn_agg (P := P) w 9999 t (xs.map (Value.int .i64)).toArray (ys.map (Value.int .i64)).toArray (by rw [hf]; exact hu) h1
   rw [hf] at hr
   have he := eqFields_ints (P := P) 9998 xs ys w fs.toList 0 (by simp; omega) (by omega) h4
   simp only [List.drop_zero] at he
   refine ⟨?_, ?_, h2⟩
   ·rw [run_eql_struct, hr, he]; rfl
   ·rw [run_neq_struct, hr, he]; rfl
def gi (xs : List Int) : S := .g (xs.map fun n => .d (.v (.int .i64 n)))
theorem OpSem.eqS {t u n : Nat} {x y : Operand} {xs ys : List Int} (ho : o.op = .binOp .eql t x y u) (hx : opS e x = some (gi xs)) (hy : opS e y = some (gi ys)) (ht : intsOf P t n = true) (h1 : xs.length = n) (h2 : ys.length = n) :
  OpSem P B o e M (.d (.v (.bool (xs == ys)))) none :=
 .value fun O H a w hs _ => by
  have hx' := rep_ints (hs x (by simp [ho, Op.operands]) _ hx)
  have hy' := rep_ints (hs y (by simp [ho, Op.operands]) _ hy)
  obtain ⟨r1, _, r3⟩ := run_eq_ints ht h1 h2 w
  refine ⟨.bool (xs == ys), ?_, .d _ _ (.v _)⟩
  simp only [execOp, ho, hx', hy', Sem.run_bind, run_eqGuard_agg w .eql t x y _ _ r3, Result.andThen_ok, r1, Sem.run_pure]
theorem OpSem.neS {t u n : Nat} {x y : Operand} {xs ys : List Int} (ho : o.op = .binOp .neq t x y u) (hx : opS e x = some (gi xs)) (hy : opS e y = some (gi ys)) (ht : intsOf P t n = true) (h1 : xs.length = n) (h2 : ys.length = n) :
  OpSem P B o e M (.d (.v (.bool (!(xs == ys))))) none :=
 .value fun O H a w hs _ => by
  have hx' := rep_ints (hs x (by simp [ho, Op.operands]) _ hx)
  have hy' := rep_ints (hs y (by simp [ho, Op.operands]) _ hy)
  obtain ⟨_, r1, r3⟩ := run_eq_ints ht h1 h2 w
  refine ⟨.bool (!(xs == ys)), ?_, .d _ _ (.v _)⟩
  simp only [execOp, ho, hx', hy', Sem.run_bind, run_eqGuard_agg w .neq t x y _ _ r3, Result.andThen_ok, r1, Sem.run_pure]
theorem RepD.clip {O : Nat → Nat} {w : World} {x : Value} {k : Nat} {rows : List (List D)} (h : RepD O w x (.s k rows)) :
  ∃ ad c, x = .slice ad rows.length c ∧ rows.length ≤ c ∧ c ≤ maxLen ∧ RepD O w (.slice ad rows.length rows.length) (.s k rows) := by
 cases h with
 | e a c k hm => exact ⟨a, c, rfl, Nat.zero_le _, hm, .e a 0 k (by simp [maxLen])⟩
 | s b off c k rows y hc hm hw hO hy hr => exact ⟨_, c, rfl, hc, hm, .s b off _ k rows y (Nat.le_refl _) (by omega) hw hO hy hr⟩
theorem OpSem.clip {t k : Nat} {x h m : Operand} {rows : List (List D)} (ho : o.op = .slice t x none (some h) (some m)) (hx : opS e x = some (.d (.s k rows))) (hh : opS e h = some (.d (.v (.int .i64 rows.length))))
  (hm : opS e m = some (.d (.v (.int .i64 rows.length)))) (ht : esz P t = some k) : OpSem P B o e M (.c k rows) none :=
 .value fun O H a w hs _ => by
  have hx' := hs x (by simp [ho, Op.operands]) _ hx
  have hh' := hs h (by simp [ho, Op.operands]) _ hh
  have hm' := hs m (by simp [ho, Op.operands]) _ hm
  generalize hv : a.eval x = v at hx'
  generalize hu : a.eval h = u at hh'
  generalize hz : a.eval m = z at hm'
  cases hh' with
  | d _ _ hh' => cases hh' with
   | v _ => cases hm' with
    | d _ _ hm' => cases hm' with
     | v _ => cases hx' with
      | d _ _ hx' =>
       obtain ⟨ad, c, hvv, hc, hcm, hrep⟩ := hx'.clip
       refine ⟨_, ?_, .c ad k rows hrep⟩
       rw [hvv] at hv
       have := run_slice_hm (P := P) w t ad rows.length c (esz_spec ht).1 .i64 .i64 rows.length rows.length (by omega) (by omega) (by omega)
       simp only [execOp, ho, hv, hu, hz, Option.map_some, Option.map_none, Sem.run_bind, run_sliceAt_slice w t _ _ _ _ (esz_spec ht).1, this, run_sizeElem ht, Result.andThen_ok, Sem.run_pure, sliced, Int.toNat_natCast]
       cases ad <;> simp [Addr.add_zero']
theorem OpSem.min2 {x y : Operand} {ts : Array TypeId} {m n : Int} (ho : o.op = .call { callee := .builtin .min, args := #[x, y], argTypes := ts }) (hx : opS e x = some (.d (.v (.int .i64 m)))) (hy : opS e y = some (.d (.v (.int .i64 n)))) :
  OpSem P B o e M (.d (.v (.int .i64 (min m n)))) none :=
 .value fun O H a w hs _ => by
  have hx' := hs x (by simp [ho, Op.operands, Call.operands]) _ hx
  have hy' := hs y (by simp [ho, Op.operands, Call.operands]) _ hy
  generalize hv : a.eval x = v at hx'
  generalize hu : a.eval y = u at hy'
  cases hx' with
  | d _ _ hx' => cases hx' with
   | v _ => cases hy' with
    | d _ _ hy' => cases hy' with
     | v _ =>
      refine ⟨.int .i64 (min m n), ?_, .d _ _ (.v _)⟩
      have : (if n < m then n else m) = min m n := by rw [Int.min_def]; split <;> split <;> omega
      simp [execOp, ho, resolve, invoke, builtin, hv, hu, run_min_int2, this]
theorem OpSem.max2 {x y : Operand} {ts : Array TypeId} {m n : Int} (ho : o.op = .call { callee := .builtin .max, args := #[x, y], argTypes := ts }) (hx : opS e x = some (.d (.v (.int .i64 m)))) (hy : opS e y = some (.d (.v (.int .i64 n)))) :
  OpSem P B o e M (.d (.v (.int .i64 (max m n)))) none :=
 .value fun O H a w hs _ => by
  have hx' := hs x (by simp [ho, Op.operands, Call.operands]) _ hx
  have hy' := hs y (by simp [ho, Op.operands, Call.operands]) _ hy
  generalize hv : a.eval x = v at hx'
  generalize hu : a.eval y = u at hy'
  cases hx' with
  | d _ _ hx' => cases hx' with
   | v _ => cases hy' with
    | d _ _ hy' => cases hy' with
     | v _ =>
      refine ⟨.int .i64 (max m n), ?_, .d _ _ (.v _)⟩
      have : (if n > m then n else m) = max m n := by rw [Int.max_def]; split <;> split <;> omega
      simp [execOp, ho, resolve, invoke, builtin, hv, hu, run_max_int2, this]
theorem badd {t : TypeId} {m n : Int} (h0 : -9223372036854775808 ≤ m + n) (h1 : m + n ≤ 9223372036854775807) : binOp .add t (.int .i64 m) (.int .i64 n) = pure (.int .i64 (m + n)) := by
 rw [binOp_add]; simp only [Op.intArith]; rw [IntWalk.i64_in _ ⟨h0, by omega⟩]
theorem bsub {t : TypeId} {m n : Int} (h0 : -9223372036854775808 ≤ m - n) (h1 : m - n ≤ 9223372036854775807) : binOp .sub t (.int .i64 m) (.int .i64 n) = pure (.int .i64 (m - n)) := by
 rw [binOp_sub]; simp only [Op.intArith]; rw [IntWalk.i64_in _ ⟨h0, by omega⟩]
theorem bmul {t : TypeId} {m n : Int} (h0 : -9223372036854775808 ≤ m * n) (h1 : m * n ≤ 9223372036854775807) : binOp .mul t (.int .i64 m) (.int .i64 n) = pure (.int .i64 (m * n)) := by
 rw [binOp_mul]; simp only [Op.intArith]; rw [IntWalk.i64_in _ ⟨h0, by omega⟩]
theorem blss {t : TypeId} {m n : Int} : binOp .lss t (.int .i64 m) (.int .i64 n) = pure (.bool (decide (m < n))) := by rw [binOp_lss]
theorem bleq {t : TypeId} {m n : Int} : binOp .leq t (.int .i64 m) (.int .i64 n) = pure (.bool (decide (m ≤ n))) := by rw [binOp_leq]
theorem bgtr {t : TypeId} {m n : Int} : binOp .gtr t (.int .i64 m) (.int .i64 n) = pure (.bool (decide (n < m))) := by rw [binOp_gtr]
theorem bgeq {t : TypeId} {m n : Int} : binOp .geq t (.int .i64 m) (.int .i64 n) = pure (.bool (decide (n ≤ m))) := by rw [binOp_geq]
theorem beql {t : TypeId} {m n : Int} : binOp .eql t (.int .i64 m) (.int .i64 n) = pure (.bool (decide (m = n))) := by
 rw [binOp_eql]; congr 2
theorem bneq {t : TypeId} {m n : Int} : binOp .neq t (.int .i64 m) (.int .i64 n) = pure (.bool (!decide (m = n))) := by
 rw [binOp_neq]; congr 2
end
end Go.Eng
end

section
namespace Go
def Act.wd (a : Act) (ds : List Deferred) : Act := { a with defers := a.defers ++ ds }
theorem Act.wd_nil (a : Act) : a.wd [] = a := by simp [Act.wd]
theorem Act.wd_wd (a : Act) (d e : List Deferred) : (a.wd d).wd e = a.wd (d ++ e) := by simp [Act.wd]
theorem Act.wd_eval (a : Act) (ds : List Deferred) : (a.wd ds).eval = a.eval := by funext x; cases x <;> rfl
theorem Act.wd_put (a : Act) (ds : List Deferred) (x : Option Tmp) (v : Value) : (a.wd ds).put x v = (a.put x v).wd ds := by cases x <;> rfl
def Code.ww (P : Program) : Code → (Exit → Act → World → Prop) → Act → World → Prop
  | .skip, Q => Q .normal
  | .label _, Q => Q .normal
  | .region _ ops false, Q => wpOps P ops Q (List.range ops.size)
  | .region _ ops true, Q => fun a w => ∀ t, wpOps P ops Q (Region.schedule (P.follows .mixedOrders) ops t) a { w with drawn := w.drawn + 1 }
  | .seq x y, Q => x.ww P (Exit.then (y.ww P Q) Q)
  | .cond c x y, Q => fun a w => ∃ t, a.eval c = .bool t ∧ (t = true → x.ww P Q a w) ∧ (t = false → y.ww P Q a w)
  | .block id c, Q => c.ww P (Exit.inBlock id Q)
  | .loop c, Q => fun a w => ∃ (I : Nat → Act → World → Prop) (n : Nat), I n a w ∧ ∀ n a w, I n a w → c.ww P (Exit.then (fun a' w' => ∃ m, m < n ∧ I m a' w') Q) a w
  | .exit id, Q => Q (.exit id)
  | .ret, Q => Q .ret
  | .goto l, Q => Q (.goto l)
  | .rangeFunc g ps x y, Q => fun a w => ∀ ds, (Code.rangeFunc g ps x y).wp P (fun e a' w' => ∃ a0, a' = a0.wd ds ∧ Q e a0 w') (a.wd ds) w
  | .scope _, _ => fun _ _ => False
  | .refuse _, _ => fun _ _ => False
section
variable {P : Program}
theorem wpOps_mono' {ops : Array Oper} {Q Q' : Exit → Act → World → Prop} (hq : ∀ e a w, Q e a w → Q' e a w) : ∀ (l : List Nat) (a : Act) (w : World), wpOps P ops Q l a w → wpOps P ops Q' l a w := by
  have hL : LetsOut Q → LetsOut Q' := fun ⟨a, w, h⟩ => ⟨a, w, hq _ _ _ h⟩
  intro l
  induction l with
  | nil => exact fun a w h => hq _ _ _ h
  | cons i l ih =>
    intro a w h
    simp only [wpOps] at h ⊢
    cases ho : ops[i]? with
    | none => rw [ho] at h; exact ih a w h
    | some o =>
      rw [ho] at h
      simp only [] at h ⊢
      split
      · rename_i hw
        rw [if_pos hw] at h
        rcases h with h | ⟨h1, h2⟩
        · refine .inl ?_
          unfold Oper.wp at h ⊢
          generalize (execOp a.eval o).run P w = r at h
          cases r with
          | ok nx w' =>
            cases nx <;> simp only [Oper.upon] at h ⊢ <;> first
              | exact ih _ _ h
              | exact h.elim
              | exact Calls.mono h (fun e w'' he => by
                  cases e with
                  | returned v => exact ih _ _ he
                  | panicked c => exact hq _ _ _ he
                  | outgrown => exact hL he)
              | exact Rows.mono h (fun _ _ he => ih _ _ he)
          | halt x w' => cases x <;> simp only [Oper.upon] at h ⊢ <;> first | exact hq _ _ _ h | exact h
        · exact .inr ⟨h1, hL h2⟩
      · rename_i hw
        rw [if_neg hw] at h
        exact ih _ _ h
theorem Exit.then_mono {K K' : Act → World → Prop} {Q Q' : Exit → Act → World → Prop} (hk : ∀ a w, K a w → K' a w) (hq : ∀ e a w, Q e a w → Q' e a w) : ∀ e a w, Exit.then K Q e a w → Exit.then K' Q' e a w := by
  intro e a w h
  cases e <;> first | exact hk _ _ h | exact hq _ _ _ h
theorem Exit.inBlock_mono {id : Nat} {Q Q' : Exit → Act → World → Prop} (hq : ∀ e a w, Q e a w → Q' e a w) : ∀ e a w, Exit.inBlock id Q e a w → Exit.inBlock id Q' e a w := by
  intro e a w h
  cases e with
  | exit i =>
    unfold Exit.inBlock at h ⊢
    simp only [] at h ⊢
    split <;> rename_i hi
    · rw [if_pos hi] at h; exact hq _ _ _ h
    · rw [if_neg hi] at h; exact hq _ _ _ h
  | _ => exact hq _ _ _ h
theorem ww_mono {c : Code} : ∀ {Q Q' : Exit → Act → World → Prop} {a : Act} {w : World}, c.ww P Q a w → (∀ e a w, Q e a w → Q' e a w) → c.ww P Q' a w := by
  induction c with
  | skip => exact fun h hq => hq _ _ _ h
  | label l => exact fun h hq => hq _ _ _ h
  | region id ops d =>
    intro Q Q' a w h hq
    cases d with
    | false => exact wpOps_mono' hq _ _ _ h
    | true => exact fun t => wpOps_mono' hq _ _ _ (h t)
  | seq x y ix iy => exact fun h hq => ix h (Exit.then_mono (fun a w h => iy h hq) hq)
  | cond c x y ix iy => exact fun ⟨t, h1, h2, h3⟩ hq => ⟨t, h1, fun e => ix (h2 e) hq, fun e => iy (h3 e) hq⟩
  | block id c ic => exact fun h hq => ic h (Exit.inBlock_mono hq)
  | loop c ic => exact fun ⟨I, n, h1, h2⟩ hq => ⟨I, n, h1, fun n a w hi => ic (h2 n a w hi) (Exit.then_mono (fun _ _ h => h) hq)⟩
  | rangeFunc g ps x y ix iy => exact fun h hq ds => wp_mono (h ds) fun e a w ⟨a0, h1, h2⟩ => ⟨a0, h1, hq _ _ _ h2⟩
  | exit id => exact fun h hq => hq _ _ _ h
  | scope c ic => exact fun h _ => h.elim
  | goto l => exact fun h hq => hq _ _ _ h
  | ret => exact fun h hq => hq _ _ _ h
  | refuse s => exact fun h _ => h.elim
theorem ww_wp {c : Code} : ∀ {Q : Exit → Act → World → Prop} {a : Act} {w : World}, c.ww P Q a w → c.wp P Q a w := by
  induction c with
  | skip => exact fun h => wp_skip h
  | label l => exact fun h => wp_label h
  | region id ops d =>
    intro Q a w h
    cases d with
    | false => exact wp_region h
    | true => exact wp_region_draw h
  | seq x y ix iy => exact fun h => wp_seq (ix (ww_mono h (Exit.then_mono (fun _ _ h => iy h) fun _ _ _ h => h)))
  | cond c x y ix iy => exact fun ⟨t, h1, h2, h3⟩ => wp_cond_split h1 (fun e => ix (h2 e)) (fun e => iy (h3 e))
  | block id c ic => exact fun h => wp_block (ic h)
  | loop c ic => exact fun ⟨I, n, h1, h2⟩ => wp_loop_ghost I n h1 fun n a w hi => ic (h2 n a w hi)
  | rangeFunc g ps x y ix iy =>
    intro Q a w h
    have := h []
    rw [Act.wd_nil] at this
    exact wp_mono this fun e a w ⟨a0, h1, h2⟩ => by rw [h1, Act.wd_nil]; exact h2
  | exit id => exact fun h => wp_exit h
  | scope c ic => exact fun h => h.elim
  | goto l => exact fun h => wp_goto h
  | ret => exact fun h => wp_ret h
  | refuse s => exact fun h => h.elim
theorem wpOps_wd {ops : Array Oper} {Q : Exit → Act → World → Prop} {ds : List Deferred} : ∀ (l : List Nat) (a : Act) (w : World), wpOps P ops (fun e a w => Q e (a.wd ds) w) l a w → wpOps P ops Q l (a.wd ds) w := by
  have hL : LetsOut (fun e a w => Q e (a.wd ds) w) → LetsOut Q := fun ⟨a, w, h⟩ => ⟨_, w, h⟩
  intro l
  induction l with
  | nil => exact fun a w h => h
  | cons i l ih =>
    intro a w h
    simp only [wpOps] at h ⊢
    cases ho : ops[i]? with
    | none => rw [ho] at h; exact ih a w h
    | some o =>
      rw [ho] at h
      simp only [] at h ⊢
      have ht : (a.wd ds).tmps = a.tmps := rfl
      rw [ht]
      split
      · rename_i hw
        rw [if_pos hw] at h
        rcases h with h | ⟨h1, h2⟩
        · refine .inl ?_
          unfold Oper.wp at h ⊢
          rw [Act.wd_eval]
          generalize (execOp a.eval o).run P w = r at h
          cases r with
          | ok nx w' =>
            cases nx <;> simp only [Oper.upon, Act.wd_put] at h ⊢ <;> first
              | exact ih _ _ h
              | exact h.elim
              | (rw [show ∀ d : Deferred, ({ a.wd ds with defers := d :: (a.wd ds).defers } : Act) = ({ a with defers := d :: a.defers } : Act).wd ds from fun _ => rfl, Act.wd_put]
                 exact ih _ _ h)
              | (refine Calls.mono h (fun e w'' he => ?_)
                 cases e with
                 | returned v => exact ih _ _ he
                 | panicked c => exact he
                 | outgrown => exact hL he)
              | exact Rows.mono h (fun _ _ he => ih _ _ he)
          | halt x w' => cases x <;> simp only [Oper.upon] at h ⊢ <;> exact h
        · refine .inr ⟨?_, hL h2⟩
          unfold Oper.asks at h1 ⊢
          rw [Act.wd_eval]; exact h1
      · rename_i hw
        rw [if_neg hw] at h
        rw [Act.wd_put]
        exact ih _ _ h
theorem inBlock_wd {id : Nat} {Q : Exit → Act → World → Prop} {ds : List Deferred} : (fun e (a : Act) w => Exit.inBlock id Q e (a.wd ds) w) = Exit.inBlock id (fun e a w => Q e (a.wd ds) w) := by
  funext e a w; cases e <;> rfl
theorem ww_wd {c : Code} : ∀ {Q : Exit → Act → World → Prop} {ds : List Deferred} {a : Act} {w : World}, c.ww P (fun e a w => Q e (a.wd ds) w) a w → c.ww P Q (a.wd ds) w := by
  induction c with
  | skip => exact fun h => h
  | label l => exact fun h => h
  | region id ops d =>
    intro Q ds a w h
    cases d with
    | false => exact wpOps_wd _ _ _ h
    | true => exact fun t => wpOps_wd _ _ _ (h t)
  | seq x y ix iy =>
    intro Q ds a w h
    refine ix (ww_mono h fun e a w hh => ?_)
    cases e <;> first | exact iy hh | exact hh
  | cond c x y ix iy => exact fun ⟨t, h1, h2, h3⟩ => ⟨t, by rw [Act.wd_eval]; exact h1, fun e => ix (h2 e), fun e => iy (h3 e)⟩
  | block id c ic => exact fun h => ic (by rw [inBlock_wd]; exact h)
  | loop c ic =>
    intro Q ds a w ⟨I, n, h1, h2⟩
    refine ⟨fun n a' w => ∃ a, a' = a.wd ds ∧ I n a w, n, ⟨a, rfl, h1⟩, ?_⟩
    rintro n _ w ⟨a, rfl, hi⟩
    refine ic (ww_mono (h2 n a w hi) fun e a w hh => ?_)
    cases e <;> first | exact hh | (obtain ⟨m, g1, g2⟩ := hh; exact ⟨m, g1, a, rfl, g2⟩)
  | rangeFunc g ps x y ix iy =>
    intro Q ds a w h es
    have := h (ds ++ es)
    rw [Act.wd_wd]
    refine wp_mono this fun e a w ⟨a0, h1, h2⟩ => ⟨a0.wd ds, by rw [Act.wd_wd]; exact h1, h2⟩
  | exit id => exact fun h => h
  | scope c ic => exact fun h => h.elim
  | goto l => exact fun h => h
  | ret => exact fun h => h
  | refuse s => exact fun h => h.elim
def Code.offs (ks : List Nat) : Code → Bool
  | .region _ ops _ => ops.toList.all fun o => match o.dst with | some d => !(ks.any fun k => Nat.beq k d) | none => true
  | .seq x y | .cond _ x y => x.offs ks && y.offs ks
  | .block _ c | .loop c => c.offs ks
  | .rangeFunc .. | .scope _ | .refuse _ => false
  | _ => true
abbrev SameT (ks : List Nat) (a a' : Act) : Prop := ∀ k, k ∈ ks → a'.tmps[k]? = a.tmps[k]?
theorem SameT.put {ks : List Nat} {a a' : Act} {x : Option Tmp} {v : Value} (h : SameT ks a a') (hx : (match x with | some d => !(ks.any fun k => Nat.beq k d) | none => true) = true) : SameT ks a (a'.put x v) := by
  intro k hk
  cases x with
  | none => exact h k hk
  | some d =>
    have hne : d ≠ k := fun e => by
      subst e
      simp only [Bool.not_eq_true', List.any_eq_false] at hx
      exact hx d hk (by simp)
    show (a'.tmps.setIfInBounds d v)[k]? = _
    rw [Array.getElem?_setIfInBounds_ne hne]; exact h k hk
theorem wpOps_offs {ops : Array Oper} {Q : Exit → Act → World → Prop} {ks : List Nat} (ho' : (ops.toList.all fun o => match o.dst with | some d => !(ks.any fun k => Nat.beq k d) | none => true) = true) (a0 : Act) :
    ∀ (l : List Nat) (a : Act) (w : World), SameT ks a0 a → wpOps P ops Q l a w → wpOps P ops (fun e a w => Q e a w ∧ (e = .outgrown ∨ SameT ks a0 a)) l a w := by
  have hL : LetsOut Q → LetsOut (fun e a w => Q e a w ∧ (e = .outgrown ∨ SameT ks a0 a)) := fun ⟨a, w, h⟩ => ⟨a, w, h, .inl rfl⟩
  intro l
  induction l with
  | nil => exact fun a w hs h => ⟨h, .inr hs⟩
  | cons i l ih =>
    intro a w hs h
    simp only [wpOps] at h ⊢
    cases ho : ops[i]? with
    | none => rw [ho] at h; exact ih a w hs h
    | some o =>
      rw [ho] at h
      simp only [] at h ⊢
      have hput : ∀ v, SameT ks a0 (a.put o.dst v) := fun v => hs.put (List.all_eq_true.1 ho' o (by
        have := Array.mem_of_getElem? ho; simpa using this))
      split
      · rename_i hw
        rw [if_pos hw] at h
        rcases h with h | ⟨h1, h2⟩
        · refine .inl ?_
          unfold Oper.wp at h ⊢
          generalize (execOp a.eval o).run P w = r at h
          cases r with
          | ok nx w' =>
            cases nx <;> simp only [Oper.upon] at h ⊢ <;> first
              | exact ih _ _ (hput _) h
              | exact h.elim
              | (refine Calls.mono h (fun e w'' he => ?_)
                 cases e with
                 | returned v => exact ih _ _ (hput _) he
                 | panicked c => exact ⟨he, .inr hs⟩
                 | outgrown => exact hL he)
              | exact Rows.mono h (fun _ _ he => ih _ _ (hput _) he)
              | exact ih _ _ (SameT.put (a' := { a with defers := _ }) hs (List.all_eq_true.1 ho' o (by
                  have := Array.mem_of_getElem? ho; simpa using this))) h
          | halt x w' => cases x <;> simp only [Oper.upon] at h ⊢ <;> first | exact ⟨h, .inr hs⟩ | exact h
        · exact .inr ⟨h1, hL h2⟩
      · rename_i hw
        rw [if_neg hw] at h
        exact ih _ _ (hput _) h
theorem ww_offs {c : Code} {ks : List Nat} {a0 : Act} : ∀ {Q : Exit → Act → World → Prop} {a : Act} {w : World}, c.offs ks = true → SameT ks a0 a → c.ww P Q a w → c.ww P (fun e a w => Q e a w ∧ (e = .outgrown ∨ SameT ks a0 a)) a w := by
  induction c with
  | skip => exact fun _ hs h => ⟨h, .inr hs⟩
  | label l => exact fun _ hs h => ⟨h, .inr hs⟩
  | region id ops d =>
    intro Q a w hc hs h
    cases d with
    | false => exact wpOps_offs hc a0 _ _ _ hs h
    | true => exact fun t => wpOps_offs hc a0 _ _ _ hs (h t)
  | seq x y ix iy =>
    intro Q a w hc hs h
    simp only [Code.offs, Bool.and_eq_true] at hc
    show x.ww P (Exit.then (y.ww P (fun e a w => Q e a w ∧ (e = .outgrown ∨ SameT ks a0 a))) (fun e a w => Q e a w ∧ (e = .outgrown ∨ SameT ks a0 a))) a w
    refine ww_mono (ix (Q := Exit.then (y.ww P Q) Q) hc.1 hs h) fun e a w ⟨h1, h2⟩ => ?_
    cases e with
    | normal => exact iy hc.2 (h2.resolve_left (by simp)) h1
    | _ => exact ⟨h1, h2⟩
  | cond c x y ix iy =>
    intro Q a w hc hs ⟨t, h1, h2, h3⟩
    simp only [Code.offs, Bool.and_eq_true] at hc
    exact ⟨t, h1, fun e => ix hc.1 hs (h2 e), fun e => iy hc.2 hs (h3 e)⟩
  | block id c ic =>
    intro Q a w hc hs h
    show c.ww P (Exit.inBlock id (fun e a w => Q e a w ∧ (e = .outgrown ∨ SameT ks a0 a))) a w
    refine ww_mono (ic (Q := Exit.inBlock id Q) hc hs h) fun e a w ⟨h1, h2⟩ => ?_
    cases e with
    | exit i =>
      unfold Exit.inBlock at h1 ⊢
      simp only [] at h1 ⊢
      have h2 := h2.resolve_left (by simp)
      split <;> rename_i hi
      · rw [if_pos hi] at h1; exact ⟨h1, .inr h2⟩
      · rw [if_neg hi] at h1; exact ⟨h1, .inr h2⟩
    | _ => exact ⟨h1, h2⟩
  | loop c ic =>
    intro Q a w hc hs ⟨I, n, h1, h2⟩
    refine ⟨fun n a w => I n a w ∧ SameT ks a0 a, n, ⟨h1, hs⟩, ?_⟩
    rintro n a w ⟨hi, hs⟩
    refine ww_mono (ic hc hs (h2 n a w hi)) fun e a w ⟨h1, h2⟩ => ?_
    cases e with
    | normal => obtain ⟨m, g1, g2⟩ := h1; exact ⟨m, g1, g2, h2.resolve_left (by simp)⟩
    | _ => exact ⟨h1, h2⟩
  | rangeFunc g ps x y ix iy => exact fun hc => by simp [Code.offs] at hc
  | exit id => exact fun _ hs h => ⟨h, .inr hs⟩
  | scope c ic => exact fun _ _ h => h.elim
  | goto l => exact fun _ hs h => ⟨h, .inr hs⟩
  | ret => exact fun _ hs h => ⟨h, .inr hs⟩
  | refuse s => exact fun _ _ h => h.elim
def Code.nod : Code → Bool
  | .region _ ops _ => ops.toList.all fun o => match o.op with | .defer _ => false | _ => true
  | .seq x y | .cond _ x y => x.nod && y.nod
  | .block _ c | .loop c => c.nod
  | .rangeFunc .. | .scope _ | .refuse _ => false
  | _ => true
theorem rowsIn_wide' {n l : Nat} {row : String} {args : Array Value} {w : World} {R : Value → World → Prop} (h : Go.Rows P row args w R) : Go.RowsIn (Fence.wide.inRound l) n P row args w R :=
  fun c cs _ => let ⟨v, w', r, s⟩ := h c cs; ⟨v, w', r, stepsIn_wide.2 s⟩
theorem wpOps_in {n l : Nat} {ops : Array Oper} {Q : Exit → Act → World → Prop} (hL : ¬ LetsOut Q) (ho' : (ops.toList.all fun o => match o.op with | .defer _ => false | _ => true) = true) :
    ∀ (s : List Nat) (a : Act) (w : World), wpOps P ops Q s a w → wpOpsIn (Fence.wide.inRound l) n P ops Q s a w := by
  intro s
  induction s with
  | nil => exact fun a w h => h
  | cons i s ih =>
    intro a w h
    simp only [wpOps] at h
    simp only [wpOpsIn]
    cases ho : ops[i]? with
    | none => rw [ho] at h; exact ih a w h
    | some o =>
      rw [ho] at h
      simp only [] at h ⊢
      split
      · rename_i hw
        rw [if_pos hw] at h
        have h := h.resolve_right fun q => hL q.2
        refine ⟨fun f _ => trivial, ?_⟩
        have hnd : ∀ c, o.op ≠ .defer c := fun c e => by
          have := List.all_eq_true.1 ho' o (by have := Array.mem_of_getElem? ho; simpa using this)
          rw [e] at this; cases this
        have hs : o.semAt (Fence.wide.inRound l).round a.eval = execOp a.eval o := Oper.semAt_some l _ o hnd
        rw [hs]
        unfold Oper.wp at h
        generalize (execOp a.eval o).run P w = r at h
        cases r with
        | ok nx w' =>
          cases nx <;> simp only [Oper.upon, Oper.uponIn] at h ⊢ <;> first
            | exact ih _ _ h
            | exact h.elim
            | (refine ⟨fun hd => by simp [Fence.wide] at hd, CallsIn.inRound l (callsIn_wide.2 (Calls.mono h fun e w'' he => ?_))⟩
               cases e with
               | returned v => exact ih _ _ he
               | panicked c => exact he
               | outgrown => exact he)
            | exact ⟨fun hd => by simp [Fence.wide] at hd, rowsIn_wide' (Rows.mono h fun _ _ he => ih _ _ he)⟩
        | halt x w' => cases x <;> simp only [Oper.upon, Oper.uponIn] at h ⊢ <;> exact h
      · rename_i hw
        rw [if_neg hw] at h
        exact ⟨fun f _ => trivial, ih _ _ h⟩
theorem noOut_then {K : Act → World → Prop} {Q : Exit → Act → World → Prop} (h : ¬ LetsOut Q) : ¬ LetsOut (Exit.then K Q) := fun ⟨a, w, q⟩ => h ⟨a, w, q⟩
theorem noOut_block {id : Nat} {Q : Exit → Act → World → Prop} (h : ¬ LetsOut Q) : ¬ LetsOut (Exit.inBlock id Q) := fun ⟨a, w, q⟩ => h ⟨a, w, q⟩
theorem ww_in {n l : Nat} {c : Code} : ∀ {Q : Exit → Act → World → Prop} {a : Act} {w : World}, ¬ LetsOut Q → c.nod = true → c.ww P Q a w → c.wpIn (Fence.wide.inRound l) n P Q a w := by
  induction c with
  | skip => exact fun _ _ h => wpIn_skip h
  | label l => exact fun _ _ h => wpIn_label h
  | region id ops d =>
    intro Q a w hL hc h
    cases d with
    | false => exact wpIn_region (wpOps_in hL hc _ _ _ h)
    | true => exact wpIn_region_draw fun t => wpOps_in hL hc _ _ _ (h t)
  | seq x y ix iy =>
    intro Q a w hL hc h
    simp only [Code.nod, Bool.and_eq_true] at hc
    exact wpIn_seq (wpIn_mono (ix (Q := Exit.then (y.ww P Q) Q) (noOut_then hL) hc.1 h) (Exit.then_mono (fun _ _ h => iy hL hc.2 h) fun _ _ _ h => h))
  | cond c x y ix iy =>
    intro Q a w hL hc ⟨t, h1, h2, h3⟩
    simp only [Code.nod, Bool.and_eq_true] at hc
    exact wpIn_cond_split h1 (fun e => ix hL hc.1 (h2 e)) (fun e => iy hL hc.2 (h3 e))
  | block id c ic => exact fun hL hc h => wpIn_block (ic (noOut_block hL) hc h)
  | loop c ic =>
    intro Q a w hL hc ⟨I, n0, h1, h2⟩
    refine wpIn_loop (fun a w => ∃ n, I n a w) (fun a w => leastOf (fun n => I n a w)) ⟨n0, h1⟩ ?_
    intro a w hI
    refine wpIn_mono (ic (noOut_then hL) hc (h2 _ a w (leastOf_spec hI).1)) fun e a' w' hh => ?_
    cases e <;> first | exact hh | (obtain ⟨m, g1, g2⟩ := hh; exact ⟨⟨m, g2⟩, Nat.lt_of_le_of_lt ((leastOf_spec ⟨m, g2⟩).2 m g2) g1⟩)
  | rangeFunc g ps x y ix iy => exact fun _ hc => by simp [Code.nod] at hc
  | exit id => exact fun _ _ h => wpIn_exit h
  | scope c ic => exact fun _ _ h => h.elim
  | goto l => exact fun _ _ h => wpIn_goto h
  | ret => exact fun _ _ h => wpIn_ret h
  | refuse s => exact fun _ _ h => h.elim
theorem ww_region_list {id : Nat} {ops : Array Oper} {Q : Exit → Act → World → Prop} {a : Act} {w : World} (h : wpList P ops Q ops.toList a w) : (Code.region id ops false).ww P Q a w := by
  show wpOps P ops Q (List.range ops.size) a w
  rw [List.range_eq_range', ← Array.length_toList, wpOps_eq_wpList ops.toList 0 (by simp)]; exact h
theorem ww_region_lit {id : Nat} {l : List Oper} {Q : Exit → Act → World → Prop} {a : Act} {w : World} (h : wpList P l.toArray Q l a w) : (Code.region id l.toArray false).ww P Q a w := ww_region_list (by simpa using h)
theorem ww_region_any {id : Nat} {ops : Array Oper} {Q : Exit → Act → World → Prop} {a : Act} {w : World} (hm : P.follows .mixedOrders = true)
    (h : wpAny P .any ops Q ops.size (Array.replicate ops.size false) a { w with drawn := w.drawn + 1 }) : (Code.region id ops true).ww P Q a w :=
  fun t => by
    simp only [Region.schedule, hm, Bool.true_or, if_true]
    exact wpAny_sound ops.size t _ a _ h
end
end Go
end

section
namespace Go.Eng
abbrev Post := Exit → Act → World → Prop
def TrOps (P : Program) (N : Nat) (w0 : World) (O0 : Nat → Nat) (ops : Array Oper) (Q : Post) (e : Env) (M : Mem) (rest : List Oper) : Prop :=
 ∀ (O : Nat → Nat) (H : Nat → Value) (a : Act) (w : World), St N w0 O0 e M O H a w → wpList P ops Q rest a w
def Tr (P : Program) (N : Nat) (w0 : World) (O0 : Nat → Nat) (e : Env) (M : Mem) (c : Code) (Q : Post) : Prop :=
 ∀ (O : Nat → Nat) (H : Nat → Value) (a : Act) (w : World), St N w0 O0 e M O H a w → c.ww P Q a w
def At (N : Nat) (w0 : World) (O0 : Nat → Nat) (e : Env) (M : Mem) (x : Exit) (Q : Post) : Prop :=
 ∀ (O : Nat → Nat) (H : Nat → Value) (a : Act) (w : World), St N w0 O0 e M O H a w → Q x a w
def kill (h : Nat) (e : Env) : Env := e.map fun p => (p.1, bif S.ok 9 h p.2 then p.2 else .u)
def Mo.kill (h : Nat) : Mo → Mo
 | .box cs => .box (cs.map fun s => bif S.ok 9 h s then s else .u)
 | m => m
def killM (h : Nat) (M : Mem) : Mem := M.map fun p => (p.1, bif Nat.beq p.1 h then .gone else p.2.kill h)
theorem look_map {α : Type} (f : Nat → α → α) (n : Nat) : ∀ (e : List (Nat × α)), look (e.map fun p => (p.1, f p.1 p.2)) n = (look e n).map (f n)
 | [] => rfl
 | (d, v) :: e => by
  simp only [List.map_cons, look]
  cases hb : Nat.beq d n with
  | false => simpa using look_map f n e
  | true => simp [Nat.eq_of_beq_eq_true hb]
theorem look_kill {h n : Nat} {e : Env} {s : S} (hs : look (kill h e) n = some s) : ∃ s', look e n = some s' ∧ ((S.ok 9 h s' = true ∧ s = s') ∨ s = .u) := by
 unfold kill at hs
 rw [look_map (fun _ v => bif S.ok 9 h v then v else .u)] at hs
 cases hl : look e n with
 | none => simp [hl] at hs
 | some s' =>
  simp only [hl, Option.map_some, Option.some.injEq] at hs
  refine ⟨s', rfl, ?_⟩
  cases hok : S.ok 9 h s' with
  | true => rw [hok] at hs; exact .inl ⟨rfl, hs.symm⟩
  | false => rw [hok] at hs; exact .inr hs.symm
theorem look_killM {h n : Nat} {M : Mem} {m : Mo} (hs : look (killM h M) n = some m) : ∃ m', look M n = some m' ∧ (m = .gone ∨ (n ≠ h ∧ m = m'.kill h)) := by
 unfold killM at hs
 rw [look_map (fun d (v : Mo) => bif Nat.beq d h then Mo.gone else v.kill h)] at hs
 cases hl : look M n with
 | none => simp [hl] at hs
 | some m' =>
  simp only [hl, Option.map_some, Option.some.injEq] at hs
  refine ⟨m', rfl, ?_⟩
  cases hb : Nat.beq n h with
  | true => rw [hb] at hs; exact .inl hs.symm
  | false => rw [hb] at hs; exact .inr ⟨fun e => by rw [e] at hb; simp at hb, hs.symm⟩
theorem MHold.kill {O : Nat → Nat} {H : Nat → Value} {B : Nat} {w : World} {n h : Nat} {m : Mo} (hm : MHold O H B w n m) : MHold O H B w n (m.kill h) := by
 cases m with
 | gone => trivial
 | fr K => exact hm
 | any K => exact hm
 | own => exact hm
 | box cs =>
  obtain ⟨b, xs, T, h1, h2, h3, h4, h5, h6⟩ := hm
  refine ⟨b, xs, T, h1, h2, h3, h4, by simpa using h5, fun i s hs => ?_⟩
  simp only [List.getElem?_map, Option.map_eq_some_iff] at hs
  obtain ⟨s', hs', rfl⟩ := hs
  obtain ⟨x, hx, hr, ho⟩ := h6 i s' hs'
  refine ⟨x, hx, ?_, ho⟩
  cases S.ok 9 h s' with
  | true => exact hr
  | false => exact .u x
theorem Mo.kill_ok (h : Nat) (m : Mo) : Mo.ok 9 h (m.kill h) = true := by
 cases m with
 | gone => rfl
 | fr K => rfl
 | any K => rfl
 | own => rfl
 | box cs =>
  simp only [Mo.kill, Mo.ok, List.all_map, List.all_eq_true, Function.comp]
  intro s _
  cases hk : S.ok 9 h s with
  | true => simpa using hk
  | false => rfl
section
variable {P : Program} {N : Nat} {w0 : World} {O0 : Nat → Nat} {ops : Array Oper} {Q : Post} {e : Env} {M : Mem} {rest : List Oper} {o : Oper} {s : S}
theorem St.size {O : Nat → Nat} {H : Nat → Value} {a : Act} {w : World} (h : St N w0 O0 e M O H a w) : w0.heap.size ≤ w.heap.size := h.bl.size
theorem put_slots {O : Nat → Nat} {H : Nat → Value} {a : Act} {w : World} {d : Nat} {x : Value} (hN : a.tmps.size = N) (hd : d < N) (hx : RepS O H w x s)
  (hs : ∀ n s, look e n = some s → ∃ x, a.tmps[n]? = some x ∧ RepS O H w x s) : ∀ n s', look ((d, s) :: e) n = some s' → ∃ y, (a.put (some d) x).tmps[n]? = some y ∧ RepS O H w y s' := by
 intro n s' hl
 rcases look_cons hl with ⟨rfl, rfl⟩ | ⟨hne, hl⟩
 ·exact ⟨x, by simp [Act.put, hN, hd], hx⟩
 ·obtain ⟨y, hy, hr⟩ := hs n s' hl
  exact ⟨y, by simp only [Act.put]; rw [Array.getElem?_setIfInBounds_ne (by omega)]; exact hy, hr⟩
theorem Oper.wp_false {K : Act → World → Prop} {a : Act} {w : World} (h : o.wp P a w K (fun _ _ _ => False)) (Q : Post) : o.wp P a w K Q := by
 unfold Oper.wp at *
 generalize (execOp a.eval o).run P w = r at *
 cases r with
 | ok n w' =>
  cases n <;> simp only [Oper.upon] at h ⊢ <;> first
   | exact h
   | exact Calls.mono h (fun e w'' he => by
     cases e with
     | returned v => exact he
     | panicked c => exact he.elim
     | outgrown => obtain ⟨_, _, h⟩ := he; exact h.elim)
 | halt x w' => cases x <;> simp only [Oper.upon] at h ⊢
theorem TrOps.sem (hsem : OpSem P w0.heap.size o e M s none) {d : Nat} (hg : o.guard = none) (hd : o.dst = some d) (hdN : d < N)
  (h : TrOps P N w0 O0 ops Q ((d, s) :: e) M rest) : TrOps P N w0 O0 ops Q e M (o :: rest) := by
 intro O H a w hst
 refine wpList_plain hg fun K hK => Oper.wp_false (hsem O H a w hst.size (hst.slotsAt _) hst.mem K ?_) Q
 intro O' H' w' x hk hb hr _
 have hsz := hst.size
 refine hK _ _ (h O' H' _ _ ⟨?_, ?_, hst.bl.trans (hb.mono hst.size), fun b hb' => (hk.lab b (by omega)).trans (hst.lab b hb'), ?_, fun h' m hm => ?_⟩)
 ·rw [hd]; exact hst.df
 ·rw [hd]; simp [Act.put, hst.sz]
 ·rw [hd]
  exact put_slots hst.sz hdN hr fun n s hs => by
   obtain ⟨y, hy, hr⟩ := hst.slots n s hs
   exact ⟨y, hy, hr.mono0 hk⟩
 ·exact (hst.mem h' m hm).mono hk (by simp) (by simp) 0 (fun h he => by cases he) (.inl rfl)
theorem TrOps.semM {h0 : Nat} {m0 : Mo} (hsem : OpSem P w0.heap.size o e M s (some (h0, m0))) {d : Nat} (hg : o.guard = none) (hd : o.dst = some d) (hdN : d < N)
  (h : TrOps P N w0 O0 ops Q ((d, s) :: kill h0 e) ((h0, m0) :: killM h0 M) rest) : TrOps P N w0 O0 ops Q e M (o :: rest) := by
 intro O H a w hst
 refine wpList_plain hg fun K hK => Oper.wp_false (hsem O H a w hst.size (hst.slotsAt _) hst.mem K ?_) Q
 intro O' H' w' x hk hb hr hm0
 have hsz := hst.size
 refine hK _ _ (h O' H' _ _ ⟨?_, ?_, hst.bl.trans (hb.mono hst.size), fun b hb' => (hk.lab b (by omega)).trans (hst.lab b hb'), ?_, fun h' m hm => ?_⟩)
 ·rw [hd]; exact hst.df
 ·rw [hd]; simp [Act.put, hst.sz]
 ·rw [hd]
  refine put_slots hst.sz hdN hr fun n s hs => ?_
  obtain ⟨s', hs', hor⟩ := look_kill hs
  obtain ⟨y, hy, hr⟩ := hst.slots n s' hs'
  rcases hor with ⟨hok, rfl⟩ | rfl
  ·exact ⟨y, hy, hr.mono hk 9 (fun h he => by cases he; exact hok) (.inr (by omega))⟩
  ·exact ⟨y, hy, .u y⟩
 ·rcases look_cons hm with ⟨rfl, rfl⟩ | ⟨hne, hm⟩
  ·exact hm0 _ _ rfl
  ·obtain ⟨m', hm', hor⟩ := look_killM hm
   rcases hor with rfl | ⟨hn, rfl⟩
   ·trivial
   ·exact ((hst.mem h' m' hm').kill (h := h0)).mono hk (by simp) (by simp; omega) 9 (fun h1 he => by cases he; exact Mo.kill_ok _ m') (.inr (by omega))
theorem TrOps.guardT {j d' : Nat} {b : Bool} {oj : Oper} (hg : o.guard = some (j, b)) (hj : ops[j]? = some oj) (hdj : oj.dst = some d') (hb : look e d' = some (.d (.v (.bool b))))
  (h : TrOps P N w0 O0 ops Q e M ({ o with guard := none } :: rest)) : TrOps P N w0 O0 ops Q e M (o :: rest) := by
 intro O H a w hst
 have := h O H a w hst
 obtain ⟨x, hx, hr⟩ := hst.slots _ _ hb
 have hxb : x = .bool b := by
  cases hr with
  | d _ _ q => cases q with
   | v _ => rfl
 subst hxb
 have hw : Region.wanted o (yielded ops a.tmps) = true := by simp [Region.wanted, hg, yielded, hj, hdj, hx]
 simp only [wpList, hw, if_true]
 simp only [wpList, Region.wanted, if_true] at this
 exact this
def isB (want : Bool) : Value → Bool
 | .bool c => c == want
 | _ => false
theorem wanted_isB {o : Oper} {ops : Array Oper} {tmps : Array Value} {j d' : Nat} {b : Bool} {oj : Oper} {v : Value} (hg : o.guard = some (j, b)) (hj : ops[j]? = some oj) (hdj : oj.dst = some d') (hx : tmps[d']? = some v) : Region.wanted o (yielded ops tmps) = isB b v := by
 simp only [Region.wanted, hg, yielded, hj, Option.bind_some, hdj, hx]
 cases v <;> simp [isB]
theorem TrOps.guardF {j d d' : Nat} {b : Bool} {oj : Oper} {v : Value} (hg : o.guard = some (j, b)) (hj : ops[j]? = some oj) (hdj : oj.dst = some d') (hb : look e d' = some (.d (.v v))) (hv : isB b v = false) (hd : o.dst = some d) (hdN : d < N)
  (h : TrOps P N w0 O0 ops Q ((d, .d (.v undef)) :: e) M rest) : TrOps P N w0 O0 ops Q e M (o :: rest) := by
 intro O H a w hst
 obtain ⟨x, hx, hr⟩ := hst.slots _ _ hb
 have hxb : x = v := by
  cases hr with
  | d _ _ q => cases q with
   | v _ => rfl
 subst hxb
 have hw : Region.wanted o (yielded ops a.tmps) = false := by rw [wanted_isB hg hj hdj hx, hv]
 simp only [wpList, hw]
 rw [if_neg (by simp)]
 refine h O H _ w ⟨?_, ?_, hst.bl, hst.lab, ?_, hst.mem⟩
 ·rw [hd]; exact hst.df
 ·rw [hd]; simp [Act.put, hst.sz]
 ·rw [hd]; exact put_slots hst.sz hdN (.d _ _ (.v _)) hst.slots
theorem TrOps.nil (h : At N w0 O0 e M .normal Q) : TrOps P N w0 O0 ops Q e M [] := fun O H a w hst => h O H a w hst
theorem Tr.region {id : Nat} {l : List Oper} (h : TrOps P N w0 O0 l.toArray Q e M l) : Tr P N w0 O0 e M (.region id l.toArray false) Q :=
 fun O H a w hst => ww_region_lit (h O H a w hst)
theorem Tr.seq {c d : Code} (h : Tr P N w0 O0 e M c (Exit.then (d.ww P Q) Q)) : Tr P N w0 O0 e M (.seq c d) Q := h
theorem Tr.block {id : Nat} {c : Code} (h : Tr P N w0 O0 e M c (Exit.inBlock id Q)) : Tr P N w0 O0 e M (.block id c) Q := h
theorem Tr.skip (h : At N w0 O0 e M .normal Q) : Tr P N w0 O0 e M .skip Q := h
theorem Tr.exit {id : Nat} (h : At N w0 O0 e M (.exit id) Q) : Tr P N w0 O0 e M (.exit id) Q := h
theorem Tr.ret (h : At N w0 O0 e M .ret Q) : Tr P N w0 O0 e M .ret Q := h
theorem Tr.cond {c : Operand} {x y : Code} {b : Bool} (hc : opS e c = some (.d (.v (.bool b)))) (ht : b = true → Tr P N w0 O0 e M x Q) (hf : b = false → Tr P N w0 O0 e M y Q) : Tr P N w0 O0 e M (.cond c x y) Q := by
 intro O H a w hst
 have hr := hst.slotsAt #[c] c (by simp) _ hc
 refine ⟨b, ?_, fun h => ht h O H a w hst, fun h => hf h O H a w hst⟩
 generalize a.eval c = v at hr
 cases hr with
 | d _ _ q => cases q with
  | v _ => rfl
theorem At.seq {c : Code} (h : Tr P N w0 O0 e M c Q) : At N w0 O0 e M .normal (Exit.then (c.ww P Q) Q) := h
theorem At.pass_exit {K : Act → World → Prop} {i : Nat} (h : At N w0 O0 e M (.exit i) Q) : At N w0 O0 e M (.exit i) (Exit.then K Q) := h
theorem At.block_normal {i : Nat} (h : At N w0 O0 e M .normal Q) : At N w0 O0 e M .normal (Exit.inBlock i Q) := h
theorem At.block_same {i : Nat} (h : At N w0 O0 e M .normal Q) : At N w0 O0 e M (.exit i) (Exit.inBlock i Q) := fun O H a w hst => by
 simp only [Exit.inBlock, if_true]; exact h O H a w hst
theorem At.block_other {i j : Nat} (hij : i ≠ j) (h : At N w0 O0 e M (.exit i) Q) : At N w0 O0 e M (.exit i) (Exit.inBlock j Q) := fun O H a w hst => by
 simp only [Exit.inBlock, if_neg hij]; exact h O H a w hst
inductive Sub (e : Env) (M : Mem) : Env → Mem → Prop
 | nil : Sub e M [] []
 | slot {n : Nat} {s s' : S} {e' : Env} {M' : Mem} (h : look e n = some s) (hl : Le s s') (t : Sub e M e' M') : Sub e M ((n, s') :: e') M'
 | mem {h : Nat} {m : Mo} {e' : Env} {M' : Mem} (hm : look M h = some m) (t : Sub e M e' M') : Sub e M e' ((h, m) :: M')
 | memEq {h : Nat} {m m' : Mo} {e' : Env} {M' : Mem} (hm : look M h = some m) (he : m = m') (t : Sub e M e' M') : Sub e M e' ((h, m') :: M')
 | boxLe {h : Nat} {cs cs' : List S} {e' : Env} {M' : Mem} (hm : look M h = some (.box cs)) (hl : Les cs cs') (t : Sub e M e' M') : Sub e M e' ((h, .box cs') :: M')
theorem Sub.st {e' : Env} {M' : Mem} (hs : Sub e M e' M') {O : Nat → Nat} {H : Nat → Value} {a : Act} {w : World} (h : St N w0 O0 e M O H a w) : St N w0 O0 e' M' O H a w := by
 induction hs with
 | nil => exact ⟨h.df, h.sz, h.bl, h.lab, (fun n s hl => by cases hl), (fun n s hl => by cases hl)⟩
 | slot hn hl t ih =>
  refine ⟨h.df, h.sz, h.bl, h.lab, fun n s hs => ?_, ih.mem⟩
  rcases look_cons hs with ⟨rfl, rfl⟩ | ⟨_, hs⟩
  ·obtain ⟨x, hx, hr⟩ := h.slots _ _ hn
   exact ⟨x, hx, hl _ _ _ _ hr⟩
  ·exact ih.slots n s hs
 | mem hm t ih =>
  refine ⟨h.df, h.sz, h.bl, h.lab, ih.slots, fun n m hs => ?_⟩
  rcases look_cons hs with ⟨rfl, rfl⟩ | ⟨_, hs⟩
  ·exact h.mem _ _ hm
  ·exact ih.mem n m hs
 | memEq hm he t ih =>
  subst he
  refine ⟨h.df, h.sz, h.bl, h.lab, ih.slots, fun n m hs => ?_⟩
  rcases look_cons hs with ⟨rfl, rfl⟩ | ⟨_, hs⟩
  ·exact h.mem _ _ hm
  ·exact ih.mem n m hs
 | boxLe hm hl t ih =>
  refine ⟨h.df, h.sz, h.bl, h.lab, ih.slots, fun n m hs => ?_⟩
  rcases look_cons hs with ⟨rfl, rfl⟩ | ⟨_, hs⟩
  ·obtain ⟨b, xs, T, h1, h2, h3, h4, h5, h6⟩ := h.mem _ _ hm
   obtain ⟨g1, g2⟩ := hl.get
   refine ⟨b, xs, T, h1, h2, h3, h4, by rw [h5, g1], fun i s hs => ?_⟩
   have hlt := (List.getElem?_eq_some_iff.1 hs).1
   obtain ⟨x, hx, hr, ho⟩ := h6 i _ (List.getElem?_eq_getElem (by omega))
   exact ⟨x, hx, g2 i _ _ (List.getElem?_eq_getElem (by omega)) hs _ _ _ _ hr, ho⟩
  ·exact ih.mem n m hs
def Inv (N : Nat) (w0 : World) (O0 : Nat → Nat) {X : Type} (p : X → Prop) (I : X → Env) (J : X → Mem) (μ : X → Nat) (n : Nat) (a : Act) (w : World) : Prop :=
 ∃ (x : X) (O : Nat → Nat) (H : Nat → Value), p x ∧ μ x < n ∧ St N w0 O0 (I x) (J x) O H a w
theorem Tr.loop {X : Type} {c : Code} (p : X → Prop) (I : X → Env) (J : X → Mem) (μ : X → Nat) (x0 : X) (hp : p x0) (h0 : Sub e M (I x0) (J x0))
  (hb : ∀ x, p x → Tr P N w0 O0 (I x) (J x) c (Exit.then (Inv N w0 O0 p I J μ (μ x)) Q)) : Tr P N w0 O0 e M (.loop c) Q := by
 intro O H a w hst
 refine ⟨fun n a w => ∃ (x : X) (O : Nat → Nat) (H : Nat → Value), p x ∧ μ x = n ∧ St N w0 O0 (I x) (J x) O H a w, μ x0, ⟨x0, O, H, hp, rfl, h0.st hst⟩, ?_⟩
 rintro n a w ⟨x, O, H, hp, rfl, hst⟩
 refine ww_mono (hb x hp O H a w hst) fun ex a' w' hq => ?_
 cases ex with
 | normal =>
  obtain ⟨y, O', H', hp', hlt, hst'⟩ := hq
  exact ⟨μ y, hlt, y, O', H', hp', rfl, hst'⟩
 | exit id => exact hq
 | goto l => exact hq
 | ret => exact hq
 | panic c => exact hq
 | outgrown => exact hq
theorem At.again {X : Type} {p : X → Prop} {I : X → Env} {J : X → Mem} {μ : X → Nat} {n : Nat} (y : X) (hp : p y) (hs : Sub e M (I y) (J y)) (hlt : μ y < n) : At N w0 O0 e M .normal (Exit.then (Inv N w0 O0 p I J μ n) Q) :=
 fun O H a w hst => ⟨y, O, H, hp, hlt, hs.st hst⟩
theorem Tr.cut {c d : Code} (e' : Env) (M' : Mem) (h1 : Tr P N w0 O0 e M c (Exit.then (fun a w => ∃ O H, St N w0 O0 e' M' O H a w) Q)) (h2 : Tr P N w0 O0 e' M' d Q) : Tr P N w0 O0 e M (.seq c d) Q := by
 refine Tr.seq fun O H a w hst => ww_mono (h1 O H a w hst) fun ex a' w' hq => ?_
 cases ex with
 | normal => obtain ⟨O', H', hst'⟩ := hq; exact h2 O' H' a' w' hst'
 | exit id => exact hq
 | goto l => exact hq
 | ret => exact hq
 | panic c => exact hq
 | outgrown => exact hq
theorem At.meet {e' : Env} {M' : Mem} (hs : Sub e M e' M') : At N w0 O0 e M .normal (Exit.then (fun a w => ∃ O H, St N w0 O0 e' M' O H a w) Q) :=
 fun O H a w hst => ⟨O, H, hs.st hst⟩
theorem Tr.ownNil {c : Code} {n : Nat} (h k T : Nat) (hn : look e n = some (.d (.v (.slice none 0 0)))) (hc : Tr P N w0 O0 ((n, .o h) :: kill h e) ((h, .own k T []) :: killM h M) c Q) : Tr P N w0 O0 e M c Q := by
 intro O H a w hst
 obtain ⟨x, hx, hr⟩ := hst.slots _ _ hn
 have hxb : x = .slice none 0 0 := by
  cases hr with
  | d _ _ q => cases q with
   | v _ => rfl
 subst hxb
 obtain ⟨H', hH'⟩ : ∃ H' : Nat → Value, H' = fun m => if m = h then (.slice none 0 0 : Value) else H m := ⟨_, rfl⟩
 have hh : H' h = .slice none 0 0 := by rw [hH']; simp
 have hk : Keep none (some h) O H w O H' w := ⟨fun _ _ => rfl, fun _ _ _ => rfl, fun n hn => by rw [hH']; simp; intro e; subst e; exact (hn rfl).elim⟩
 refine hc O H' a w ⟨hst.df, hst.sz, hst.bl, hst.lab, fun m s hs => ?_, fun m' m hm => ?_⟩
 ·rcases look_cons hs with ⟨rfl, rfl⟩ | ⟨_, hs⟩
  ·refine ⟨_, hx, ?_⟩
   have := RepS.o (O := O) (H := H') (w := w) h (by rw [hh]; rfl)
   rwa [hh] at this
  ·obtain ⟨s', hs', hor⟩ := look_kill hs
   obtain ⟨y, hy, hr⟩ := hst.slots _ s' hs'
   rcases hor with ⟨hok, rfl⟩ | rfl
   ·exact ⟨y, hy, hr.mono hk 9 (fun h he => by cases he; exact hok) (.inr (by omega))⟩
   ·exact ⟨y, hy, .u y⟩
 ·rcases look_cons hm with ⟨rfl, rfl⟩ | ⟨hne, hm⟩
  ·exact .inl ⟨hh, rfl⟩
  ·obtain ⟨m2, hm2, hor⟩ := look_killM hm
   rcases hor with rfl | ⟨hn, rfl⟩
   ·trivial
   ·exact ((hst.mem m' m2 hm2).kill (h := h)).mono hk (by simp) (by simp; omega) 9 (fun h1 he => by cases he; exact Mo.kill_ok _ m2) (.inr (by omega))
end
end Go.Eng
end

section
namespace Go.Eng
theorem Below.setRow {B : Nat} {w : World} {b : Nat} {cs : Array Value} (hb : B ≤ b) : Below B w (w.setRow b cs) :=
 ⟨rfl, rfl, rfl, by simp [World.setRow], fun k hk => setRow_other w b k cs (by omega), Nat.le_refl _⟩
theorem Keep.setRow {O : Nat → Nat} {H : Nat → Value} {w : World} {b h : Nat} {cs : Array Value} (hO : O b = h + 1) : Keep (some h) none O H w O H (w.setRow b cs) :=
 ⟨fun _ _ => rfl, fun b' hb' hne => setRow_other w b b' cs fun e => hne h rfl (by rw [e]; exact hO), fun _ _ => rfl⟩
section
variable {P : Program} {N : Nat} {w0 : World} {O0 : Nat → Nat} {ops : Array Oper} {Q : Post} {e : Env} {M : Mem} {rest : List Oper} {o : Oper} {s : S}
theorem run_storeVar {t : TypeId} {g : Bool} {n : Nat} (ht : vsz P t = some (g, n)) {w : World} {b off T : Nat} {cur : Array Value} {v : Value} (hb : w.heap[b]? = some (.cells cur T (0, 0))) (hn : v.cells.size = n) (hfit : off + n ≤ cur.size)
  (h1 : ∀ x, x ∈ v.cells.toList → x.oneCell' = true) :
  (storeVar t ⟨b, off, none⟩ v).run P w = .ok () (w.setRow b (cur.toList.take off ++ v.cells.toList ++ cur.toList.drop (off + n)).toArray) := by
 have hst := run_storeCells_at P b off T v.cells.toList 0 cur w hb (by simp; omega) h1
 simp only [Nat.add_zero, Array.length_toList, hn] at hst
 simp only [storeVar, Sem.run_bind, (run_isAgg ht w).2, Result.andThen_ok, hn, ne_eq, not_true_eq_false, if_false, Sem.run_pure, hst]
theorem TrOps.storeb {t : TypeId} {x y : Operand} {h k : Nat} {cs ss : List S} {g : Bool} (ho : o.op = .store t x y) (hg : o.guard = none) (hd : o.dst = none) (hx : opS e x = some (.r h k)) (hM : look M h = some (.box cs)) (hy : opS e y = some s) (hs : s.cells = some ss)
  (ht : vsz P t = some (g, ss.length)) (hk : k + ss.length ≤ cs.length) (hn : TrOps P N w0 O0 ops Q e ((h, .box (cs.take k ++ ss ++ cs.drop (k + ss.length))) :: M) rest) : TrOps P N w0 O0 ops Q e M (o :: rest) := by
 intro O H a w hst
 have hr := hst.slotsAt #[x] x (by simp) _ hx
 have hv := hst.slotsAt #[y] y (by simp) _ hy
 obtain ⟨b, xs, T, hH, hB, hO, hb, hsz, hc⟩ := hst.mem h _ hM
 obtain ⟨v1, v2⟩ := hv.cells hs
 generalize hxa : a.eval x = xa at hr
 cases hr with
 | r h b' k hH' =>
  rw [hH] at hH'
  simp only [Value.pointer.injEq, Option.some.injEq, Addr.mk.injEq, and_true] at hH'
  subst hH'
  have h1 : ∀ z, z ∈ (a.eval y).cells.toList → z.oneCell' = true := by
   intro z hz
   obtain ⟨i, hi⟩ := List.getElem?_of_mem hz
   have hlt : i < ss.length := by rw [← v1]; have := (List.getElem?_eq_some_iff.1 hi).1; simpa using this
   obtain ⟨z', hz', _, ho'⟩ := v2 i _ (List.getElem?_eq_getElem hlt)
   have : z = z' := by simpa [hz'] using hi.symm
   rw [this]; exact ho'
  have hrun := run_storeVar ht (off := k) hb v1 (by rw [hsz]; omega) h1
  refine wpList_plain hg fun K hK => ?_
  unfold Oper.wp
  simp only [execOp, ho, hxa, Instr.storeAt, Instr.sureAddr, Sem.run_bind, Sem.run_pure, Result.andThen_ok, hrun, Oper.upon_skip]
  refine hK _ _ (hn O H _ _ ⟨?_, ?_, hst.bl.trans ((Below.setRow hB).mono (Nat.le_refl _)), hst.lab, fun n s' hs' => ?_, fun h' m hm => ?_⟩)
  ·rw [hd]; exact hst.df
  ·rw [hd]; exact hst.sz
  ·rw [hd]
   obtain ⟨z, hz, hr⟩ := hst.slots n s' hs'
   exact ⟨z, hz, hr.mono0 (Keep.setRow hO)⟩
  ·have hk' := Keep.setRow (O := O) (H := H) (w := w) (cs := (xs.toList.take k ++ (a.eval y).cells.toList ++ xs.toList.drop (k + ss.length)).toArray) hO
   rcases look_cons hm with ⟨rfl, rfl⟩ | ⟨hne, hm⟩
   ·refine ⟨b, _, T, hH, hB, hO, setRow_heap w b xs _ T _ hb, by simp; omega, fun i s' hi => ?_⟩
    by_cases h1 : i < k
    ·rw [List.append_assoc, List.getElem?_append_left (by simp; omega), List.getElem?_take_of_lt h1] at hi
     obtain ⟨z, hz, hr, ho'⟩ := hc i s' hi
     refine ⟨z, ?_, hr.mono0 hk', ho'⟩
     simp only [List.getElem?_toArray]
     rw [List.append_assoc, List.getElem?_append_left (by simp; omega), List.getElem?_take_of_lt h1]
     simpa using hz
    ·by_cases h2 : i < k + ss.length
     ·rw [List.append_assoc, List.getElem?_append_right (by simp; omega), List.getElem?_append_left (by simp; omega)] at hi
      obtain ⟨z, hz, hr, ho'⟩ := v2 _ s' hi
      refine ⟨z, ?_, hr.mono0 hk', ho'⟩
      simp only [List.getElem?_toArray]
      rw [List.append_assoc, List.getElem?_append_right (by simp; omega), List.getElem?_append_left (by simp; omega)]
      simp only [List.length_take, Array.length_toList] at hz ⊢
      rw [Nat.min_eq_left (by omega)] at hz ⊢
      simpa using hz
     ·rw [List.getElem?_append_right (by simp; omega), List.getElem?_drop] at hi
      have e1 : k + ss.length + (i - (List.take k cs ++ ss).length) = i := by simp; omega
      rw [e1] at hi
      obtain ⟨z, hz, hr, ho'⟩ := hc i s' hi
      refine ⟨z, ?_, hr.mono0 hk', ho'⟩
      simp only [List.getElem?_toArray]
      rw [List.getElem?_append_right (by simp; omega), List.getElem?_drop]
      have e2 : k + ss.length + (i - (List.take k xs.toList ++ (a.eval y).cells.toList).length) = i := by simp; omega
      rw [e2]
      simpa using hz
   ·exact (hst.mem h' m hm).mono hk' (by simp; omega) (by simp) 0 (fun h he => by cases he) (.inl rfl)
theorem TrOps.storeq {t : TypeId} {x y : Operand} {h k T i j : Nat} {rows : List (List D)} {r : List D} {d : D} (ho : o.op = .store t x y) (hg : o.guard = none) (hd : o.dst = none) (hx : opS e x = some (.q h k i j)) (hM : look M h = some (.own k T rows)) (hy : opS e y = some (.d d))
  (h1 : d.one = true) (ht : vsz P t = some (false, 1)) (hi : rows[i]? = some r) (hj : j < r.length) (hn : TrOps P N w0 O0 ops Q e ((h, .own k T (rows.set i (r.set j d))) :: M) rest) : TrOps P N w0 O0 ops Q e M (o :: rest) := by
 intro O H a w hst
 have hr := hst.slotsAt #[x] x (by simp) _ hx
 have hv := hst.slotsAt #[y] y (by simp) _ hy
 generalize hxa : a.eval x = xa at hr
 generalize hya : a.eval y = ya at hv
 have hilt : i < rows.length := (List.getElem?_eq_some_iff.1 hi).1
 cases hv with
 | d _ _ hv =>
 cases hr with
 | q h b k i j len cap' hH' =>
  rcases hst.mem h _ hM with ⟨h0, _⟩ | ⟨b', cap, xs, hH, hB, hO, hb, hlc, hcm, hsz, hw, hc⟩
  ·rw [h0] at hH'; cases hH'
  ·rw [hH] at hH'
   simp only [Value.slice.injEq, Option.some.injEq, Addr.mk.injEq, and_true] at hH'
   obtain ⟨rfl, _, _⟩ := hH'
   have hrk : r.length = k := hw r (List.mem_of_getElem? hi)
   have hbound : i * k + j < xs.size := by
    obtain ⟨z, hz, _⟩ := hc i r j _ hi (List.getElem?_eq_getElem hj)
    exact (Array.getElem?_eq_some_iff.1 hz).1
   have ho1 := hv.one' h1
   have hcells : ya.cells = #[ya] := by cases ya <;> simp_all [Value.cells, Value.oneCell']
   have hrun := run_storeVar (P := P) (v := ya) ht (off := i * k + j) hb (by rw [hcells]; rfl) (by omega) (by rw [hcells]; intro z hz; simp at hz; rw [hz]; exact ho1)
   refine wpList_plain hg fun K hK => ?_
   unfold Oper.wp
   simp only [execOp, ho, hxa, hya, Instr.storeAt, Instr.sureAddr, Sem.run_bind, Sem.run_pure, Result.andThen_ok, hrun, Oper.upon_skip]
   refine hK _ _ (hn O H _ _ ⟨?_, ?_, hst.bl.trans ((Below.setRow hB).mono (Nat.le_refl _)), hst.lab, fun n s' hs' => ?_, fun h' m hm => ?_⟩)
   ·rw [hd]; exact hst.df
   ·rw [hd]; exact hst.sz
   ·rw [hd]
    obtain ⟨z, hz, hr⟩ := hst.slots n s' hs'
    exact ⟨z, hz, hr.mono0 (Keep.setRow hO)⟩
   ·have hk' := Keep.setRow (O := O) (H := H) (w := w) (cs := (xs.toList.take (i * k + j) ++ ya.cells.toList ++ xs.toList.drop (i * k + j + 1)).toArray) hO
    have hset : (xs.toList.take (i * k + j) ++ ya.cells.toList ++ xs.toList.drop (i * k + j + 1)).toArray = xs.setIfInBounds (i * k + j) ya := by
     apply Array.ext'
     simp only [hcells, Array.toList_setIfInBounds, List.toList_toArray]
     rw [List.set_eq_take_append_cons_drop, if_pos (by simpa using hbound)]
     simp
    rcases look_cons hm with ⟨rfl, rfl⟩ | ⟨hne, hm⟩
    ·refine .inr ⟨b', cap, _, by rw [List.length_set]; exact hH, hB, hO, setRow_heap w b' xs _ T _ hb, by simpa using hlc, hcm, by rw [hset, Array.size_setIfInBounds]; exact hsz, fun r' hr' => ?_, fun i' r' j' d' hi' hj' => ?_⟩
     ·rcases List.mem_or_eq_of_mem_set hr' with h | h
      ·exact hw r' h
      ·rw [h, List.length_set]; exact hrk
     ·rw [hset] at hk' ⊢
      by_cases hii : i' = i
      ·subst hii
       rw [List.getElem?_set_self hilt] at hi'
       simp only [Option.some.injEq] at hi'
       subst hi'
       by_cases hjj : j' = j
       ·subst hjj
        rw [List.getElem?_set_self hj] at hj'
        simp only [Option.some.injEq] at hj'
        subst hj'
        exact ⟨ya, by simp [hbound], hv.mono hk'.keeps, ho1⟩
       ·rw [List.getElem?_set_ne (by omega)] at hj'
        obtain ⟨z, hz, hr, ho'⟩ := hc i' r j' d' hi hj'
        exact ⟨z, by rw [Array.getElem?_setIfInBounds_ne (by omega)]; exact hz, hr.mono hk'.keeps, ho'⟩
      ·rw [List.getElem?_set_ne (by omega)] at hi'
       obtain ⟨z, hz, hr, ho'⟩ := hc i' r' j' d' hi' hj'
       refine ⟨z, ?_, hr.mono hk'.keeps, ho'⟩
       have hj'k : j' < k := by rw [← hw r' (List.mem_of_getElem? hi')]; exact (List.getElem?_eq_some_iff.1 hj').1
       rw [Array.getElem?_setIfInBounds_ne ?_]
       ·exact hz
       ·intro he
        have hjk : j < k := by omega
        rcases Nat.lt_or_gt_of_ne hii with hlt | hlt
        ·have : (i' + 1) * k ≤ i * k := Nat.mul_le_mul_right k hlt
         rw [Nat.succ_mul] at this; omega
        ·have : (i + 1) * k ≤ i' * k := Nat.mul_le_mul_right k hlt
         rw [Nat.succ_mul] at this; omega
    ·exact (hst.mem h' m hm).mono hk' (by simp; omega) (by simp) 0 (fun h he => by cases he) (.inl rfl)
theorem run_append {t ty k T h B : Nat} {rows rows2 : List (List D)} {O : Nat → Nat} {H : Nat → Value} {w : World} {y : Value} {zs : List Value} {by_ : Nat} (hk : esz P t = some k) (hT : P.elem t = T) (hz : zcells P T = some zs) (hzk : zs.length = k)
  (hby : P.bytesOf T = by_) (hm : MHold O H B w h (.own k T rows)) (hy : RepD O w y (.s k rows2)) (hone : ∀ r, r ∈ rows2 → r.all D.one = true) (hB : B ≤ w.heap.size) (hlen : (rows.length + rows2.length) ≤ maxLen) (hroom : (rows.length + rows2.length) * by_ ≤ 140737488355328) :
  ∃ (x' : Value) (w' : World) (O' : Nat → Nat) (H' : Nat → Value), (Builtin.append_ #[t, t] ty #[H h, y]).run P w = .ok x' w' ∧ Keep (some h) (some h) O H w O' H' w' ∧ Below B w w' ∧ H' h = x' ∧ x'.oneCell' = true ∧
   MHold O' H' B w' h (.own k T (rows ++ rows2)) := by
 obtain ⟨hu, i, hi, hik⟩ := esz_spec hk
 rw [hT] at hu hi
 have hbi : i.bytes = by_ := by simpa [Program.bytesOf, hi] using hby
 obtain ⟨z, hiz, hzc⟩ : ∃ z, i.zero = some z ∧ z.cells = zs.toArray := by
  unfold zcells at hz
  cases hq : i.zero with
  | none => simp [hi, hq] at hz
  | some z => simp [hi, hq] at hz; exact ⟨z, rfl, by rw [← hz]⟩
 have hzz : z.cells.size = k := by rw [hzc]; simpa using hzk
 by_cases h2 : rows2 = []
 ·-- nothing is added
  subst h2
  obtain ⟨ad, c, rfl, _⟩ := hy.slice
  refine ⟨H h, w, O, H, ?_, .refl _ _ _ _ _, .refl _ _, rfl, ?_, by rw [List.append_nil]; exact hm⟩
  ·have hf : ∀ w, (Builtin.firstCells k 0 (.slice ad 0 c)).run P w = .ok #[] w := by
    intro w
    cases ad with
    | none => simp [Builtin.firstCells]
    | some a => simp [Builtin.firstCells, loadCells, loadCellsFrom]
   rcases hm with ⟨h0, rfl⟩ | ⟨b, cap, xs, hH, _, _, _, hlc, _⟩
   ·rw [h0]
    simp [Builtin.append_, run_underlying hu, sizeOf, typeInfo, hi, Builtin.lenOf, hik, hf]
   ·rw [hH]
    simp [Builtin.append_, run_underlying hu, sizeOf, typeInfo, hi, Builtin.lenOf, hik, hf, hlc, storeCells]
  ·rcases hm with ⟨h0, _⟩ | ⟨b, cap, xs, hH, _⟩
   ·rw [h0]; rfl
   ·rw [hH]; rfl
 ·cases hy with
  | e => exact absurd rfl h2
  | s b2 off c _ _ yv hc2 hm2 hw2 hO2 hy2 hr2 =>
   have hlk : ∀ (q n : Nat), q < n * k → 0 < k → q / k < n := fun q n hq hk0 => Nat.div_lt_of_lt_mul (by rw [Nat.mul_comm]; exact hq)
   have hk0 : 0 < k ∨ k = 0 := by omega
   have hnews : ∀ (j : Nat) (v : Value), ((List.range (rows2.length * k)).map yv)[j]? = some v → w.cell? ((⟨b2, off, none⟩ : Addr).add j) = some v := by
    intro j v hj
    simp only [List.getElem?_map, Option.map_eq_some_iff] at hj
    obtain ⟨j', hj', rfl⟩ := hj
    have hlt : j < rows2.length * k := by have := (List.getElem?_eq_some_iff.1 hj').1; simpa using this
    have : j' = j := by simpa [hlt] using hj'.symm
    subst this
    have hkp : 0 < k := hk0.elim id (fun h => by rw [h] at hlt; simp at hlt)
    have hq := hlk j' rows2.length hlt hkp
    have hr := List.getElem?_eq_getElem hq
    have hrl : (rows2[j' / k]).length = k := hw2 _ (List.getElem_mem hq)
    have hd := List.getElem?_eq_getElem (l := rows2[j' / k]) (i := j' % k) (by rw [hrl]; exact Nat.mod_lt _ hkp)
    have := hy2 _ _ _ _ hr hd
    rw [Addr.add_lit]
    have e1 : j' / k * k + j' % k = j' := by rw [Nat.mul_comm]; exact Nat.div_add_mod j' k
    rw [e1] at this
    exact this
   have hnl : ((List.range (rows2.length * k)).map yv).length = rows2.length * i.size := by simp [hik]
   have hnew1 : ∀ u, u ∈ (List.range (rows2.length * k)).map yv → u.oneCell' = true := by
    intro u hu'
    simp only [List.mem_map, List.mem_range] at hu'
    obtain ⟨j', hlt, rfl⟩ := hu'
    have hkp : 0 < k := hk0.elim id (fun h => by rw [h] at hlt; simp at hlt)
    have hq := hlk j' rows2.length hlt hkp
    have hr := List.getElem?_eq_getElem hq
    have hrl : (rows2[j' / k]).length = k := hw2 _ (List.getElem_mem hq)
    have hd := List.getElem?_eq_getElem (l := rows2[j' / k]) (i := j' % k) (by rw [hrl]; exact Nat.mod_lt _ hkp)
    have hrep := hr2 _ _ _ _ hr hd
    have e1 : j' / k * k + j' % k = j' := by rw [Nat.mul_comm]; exact Nat.div_add_mod j' k
    rw [e1] at hrep
    refine hrep.one' ?_
    have := hone _ (List.getElem_mem hq)
    rw [List.all_eq_true] at this
    exact this _ (List.getElem_mem _)
   have hmp : 0 < rows2.length := List.length_pos_iff.2 h2
   have hcell2 : ∀ (i' : Nat) (r : List D) (j : Nat) (d : D), rows2[i']? = some r → r[j]? = some d → ((List.range (rows2.length * k)).map yv)[i' * k + j]? = some (yv (i' * k + j)) ∧ RepD O w (yv (i' * k + j)) d ∧ (yv (i' * k + j)).oneCell' = true := by
    intro i' r j d hi' hj
    have hrl : r.length = k := hw2 r (List.mem_of_getElem? hi')
    have hjk : j < k := by rw [← hrl]; exact (List.getElem?_eq_some_iff.1 hj).1
    have hil : i' < rows2.length := (List.getElem?_eq_some_iff.1 hi').1
    have hlt : i' * k + j < rows2.length * k := by
     have : (i' + 1) * k ≤ rows2.length * k := Nat.mul_le_mul_right k hil
     rw [Nat.succ_mul] at this; omega
    refine ⟨by simp [hlt], hr2 _ _ _ _ hi' hj, hnew1 _ (by simp only [List.mem_map, List.mem_range]; exact ⟨_, hlt, rfl⟩)⟩
   have rowsAt : ∀ (xs : List Value) (cur : Array Value) (O' : Nat → Nat) (w' : World), xs.length = rows.length * k → (∀ (i : Nat) (r : List D) (j : Nat) (d : D), rows[i]? = some r → r[j]? = some d → ∃ x, xs[i * k + j]? = some x ∧ RepD O w x d ∧ x.oneCell' = true) → (∀ r, r ∈ rows → r.length = k) →
     (∀ j, j < (rows.length + rows2.length) * k → cur[j]? = (xs ++ (List.range (rows2.length * k)).map yv)[j]?) → Keeps O w O' w' →
     (∀ r, r ∈ rows ++ rows2 → r.length = k) ∧ ∀ (i : Nat) (r : List D) (j : Nat) (d : D), (rows ++ rows2)[i]? = some r → r[j]? = some d → ∃ x, cur[i * k + j]? = some x ∧ RepD O' w' x d ∧ x.oneCell' = true := by
    intro xs cur O' w' hxl hxc hrw hcur hkeep
    refine ⟨fun r hr => (List.mem_append.1 hr).elim (hrw r) (hw2 r), fun i' r j d hi' hj => ?_⟩
    have hil : i' < rows.length + rows2.length := by have := (List.getElem?_eq_some_iff.1 hi').1; simpa using this
    have hrl : r.length = k := ((List.mem_append.1 (List.mem_of_getElem? hi')).elim (hrw r) (hw2 r))
    have hjk : j < k := by rw [← hrl]; exact (List.getElem?_eq_some_iff.1 hj).1
    have hlt : i' * k + j < (rows.length + rows2.length) * k := by
     have : (i' + 1) * k ≤ (rows.length + rows2.length) * k := Nat.mul_le_mul_right k hil
     rw [Nat.succ_mul] at this; omega
    rw [hcur _ hlt]
    by_cases hlo : i' < rows.length
    ·rw [List.getElem?_append_left hlo] at hi'
     obtain ⟨x, hx, hr, h1⟩ := hxc i' r j d hi' hj
     refine ⟨x, ?_, hr.mono hkeep, h1⟩
     have : i' * k + j < xs.length := (List.getElem?_eq_some_iff.1 hx).1
     rw [List.getElem?_append_left this]; exact hx
    ·rw [List.getElem?_append_right (by omega)] at hi'
     obtain ⟨hx, hr, h1⟩ := hcell2 _ r j d hi' hj
     refine ⟨_, ?_, hr.mono hkeep, h1⟩
     have hge : rows.length * k ≤ i' * k := Nat.mul_le_mul_right k (by omega)
     rw [List.getElem?_append_right (by omega), hxl]
     have : i' * k + j - rows.length * k = (i' - rows.length) * k + j := by rw [Nat.sub_mul]; omega
     rw [this]; exact hx
   rcases hm with ⟨h0, hr0⟩ | ⟨b, cap, xs, hH, hBb, hOb, hb, hlc, hcm, hsz, hw, hc⟩
   ·-- nil: a new row
    subst hr0
    simp only [List.length_nil, Nat.zero_add] at hlen hroom
    have hrun := run_append_nil (P := P) w t ty T i z hu hi hiz ⟨b2, off, none⟩ rows2.length c _ hnl hnews hmp (by simp only [maxLen] at hlen; omega) (by rw [hbi]; omega)
    have hge := grownCap_ge w rows2.length 0 T
    have hle := grownCap_le_maxLen w rows2.length 0 T hlen
    rw [h0]
    refine ⟨_, _, fun b' => if b' = w.heap.size then h + 1 else O b', fun n => if n = h then .slice (some ⟨w.heap.size, 0, none⟩) rows2.length (grownCap w rows2.length 0 T) else H n, hrun, ?_, ?_, by simp, rfl, ?_⟩
    ·exact ⟨fun b' hb' => by simp [Nat.ne_of_lt hb'], fun b' hb' _ => heap_alloc_old w.drew _ hb', fun n hn => by simp; intro e; subst e; exact (hn rfl).elim⟩
    ·exact ⟨rfl, rfl, rfl, by simp, fun b' hb' => heap_alloc_old w.drew _ (by simp; omega), Nat.le_succ _⟩
    ·have hkp : Keeps O w (fun b' => if b' = w.heap.size then h + 1 else O b') (w.drew.alloc (.cells (((List.range (rows2.length * k)).map yv).toArray ++ Builtin.zeroCells z.cells (grownCap w rows2.length 0 T - rows2.length)) T)) :=
      fun b' hb' hO => ⟨by simp [Nat.ne_of_lt hb', hO], heap_alloc_old w.drew _ hb'⟩
     obtain ⟨q1, q2⟩ := rowsAt [] (((List.range (rows2.length * k)).map yv).toArray ++ Builtin.zeroCells z.cells (grownCap w rows2.length 0 T - rows2.length)) _ _ (by simp) (fun i r j d h => by simp at h) (fun r hr => by simp at hr) (fun j hj => by
      simp only [List.length_nil, Nat.zero_add] at hj
      rw [Array.getElem?_append_left (by simpa using hj)]; simp) hkp
     refine .inr ⟨w.heap.size, _, _, by simp, hB, by simp, heap_alloc_new w.drew _, by simpa using hge, hle, ?_, q1, q2⟩
     simp only [Array.size_append, List.size_toArray, size_zeroCells, hzz, List.length_map, List.length_range, ← Nat.add_mul]
     congr 1; omega
   ·have hxs : ∀ (i : Nat) (r : List D) (j : Nat) (d : D), rows[i]? = some r → r[j]? = some d → ∃ x, (xs.toList.take (rows.length * k))[i * k + j]? = some x ∧ RepD O w x d ∧ x.oneCell' = true := by
     intro i' r j d hi' hj
     obtain ⟨x, hx, hr, h1⟩ := hc i' r j d hi' hj
     refine ⟨x, ?_, hr, h1⟩
     have hrl : r.length = k := hw r (List.mem_of_getElem? hi')
     have hjk : j < k := by rw [← hrl]; exact (List.getElem?_eq_some_iff.1 hj).1
     have hil : i' < rows.length := (List.getElem?_eq_some_iff.1 hi').1
     have hlt : i' * k + j < rows.length * k := by
      have : (i' + 1) * k ≤ rows.length * k := Nat.mul_le_mul_right k hil
      rw [Nat.succ_mul] at this; omega
     rw [List.getElem?_take_of_lt hlt]; simpa using hx
    have hxl : (xs.toList.take (rows.length * k)).length = rows.length * k := by
     simp only [List.length_take, Array.length_toList, hsz]
     exact Nat.min_eq_left (Nat.mul_le_mul_right k hlc)
    by_cases hroom2 : rows.length + rows2.length ≤ cap
    ·-- there is room
     have hfit : rows.length * i.size + ((List.range (rows2.length * k)).map yv).length ≤ xs.size := by
      rw [hnl, hsz, hik, ← Nat.add_mul]; exact Nat.mul_le_mul_right _ hroom2
     have hrun := run_append_room (P := P) w t ty T i hu hi b rows.length cap xs hb ⟨b2, off, none⟩ rows2.length c _ hnl hnews hnew1 hroom2 hfit
     rw [hH]
     refine ⟨_, _, O, fun n => if n = h then .slice (some ⟨b, 0, none⟩) (rows.length + rows2.length) cap else H n, hrun, ?_, Below.setRow hBb, by simp, rfl, ?_⟩
     ·have := Keep.setRow (O := O) (H := H) (w := w) (cs := (xs.toList.take (rows.length * i.size) ++ (List.range (rows2.length * k)).map yv ++ xs.toList.drop (rows.length * i.size + ((List.range (rows2.length * k)).map yv).length)).toArray) hOb
      exact ⟨this.lab, this.hp, fun n hn => by simp; intro e; subst e; exact (hn rfl).elim⟩
     ·have hkp := (Keep.setRow (O := O) (H := H) (w := w) (cs := (xs.toList.take (rows.length * i.size) ++ (List.range (rows2.length * k)).map yv ++ xs.toList.drop (rows.length * i.size + ((List.range (rows2.length * k)).map yv).length)).toArray) hOb).keeps
      obtain ⟨q1, q2⟩ := rowsAt (xs.toList.take (rows.length * k)) (xs.toList.take (rows.length * i.size) ++ (List.range (rows2.length * k)).map yv ++ xs.toList.drop (rows.length * i.size + ((List.range (rows2.length * k)).map yv).length)).toArray _ _ hxl hxs hw (fun j hj => by
       rw [List.getElem?_toArray, hik]
       rw [List.getElem?_append_left]
       rw [List.length_append, hxl, hnl, hik, ← Nat.add_mul]; exact hj) hkp
      refine .inr ⟨b, cap, _, by simp, hBb, hOb, setRow_heap w b xs _ T _ hb, by simpa using hroom2, hcm, ?_, q1, q2⟩
      simp only [List.size_toArray, List.length_append, List.length_take, List.length_drop, Array.length_toList, List.length_map, List.length_range, hik, hsz]
      have e1 := Nat.mul_le_mul_right k hlc
      have e2 := Nat.mul_le_mul_right k hroom2
      rw [Nat.add_mul] at e2
      omega
    ·-- it grows
     have holds : ∀ (j : Nat) (u : Value), (xs.toList.take (rows.length * k))[j]? = some u → w.cell? ((⟨b, 0, none⟩ : Addr).add j) = some u := by
      intro j u hj
      have hlt : j < rows.length * k := by have := (List.getElem?_eq_some_iff.1 hj).1; rw [hxl] at this; exact this
      rw [List.getElem?_take_of_lt hlt] at hj
      rw [Addr.add_lit, Nat.zero_add]
      exact cellOf hb (by simpa using hj)
     have hrun := run_append_grow (P := P) w t ty T i z hu hi hiz ⟨b, 0, none⟩ rows.length cap (xs.toList.take (rows.length * k)) (by rw [hxl, hik]) holds ⟨b2, off, none⟩ rows2.length c _ hnl hnews (by omega) (by simp only [maxLen] at hlen; omega) (growslice_fits (by omega) (by rw [hbi]; exact hroom))
     have hge := grownCap_ge w (rows.length + rows2.length) cap T
     have hle := grownCap_le_maxLen w (rows.length + rows2.length) cap T hlen
     rw [hH]
     refine ⟨_, _, fun b' => if b' = w.heap.size then h + 1 else O b', fun n => if n = h then .slice (some ⟨w.heap.size, 0, none⟩) (rows.length + rows2.length) (grownCap w (rows.length + rows2.length) cap T) else H n, hrun, ?_, ?_, by simp, rfl, ?_⟩
     ·exact ⟨fun b' hb' => by simp [Nat.ne_of_lt hb'], fun b' hb' _ => heap_alloc_old w.drew _ hb', fun n hn => by simp; intro e; subst e; exact (hn rfl).elim⟩
     ·exact ⟨rfl, rfl, rfl, by simp, fun b' hb' => heap_alloc_old w.drew _ (by simp; omega), Nat.le_succ _⟩
     ·have hkp : Keeps O w (fun b' => if b' = w.heap.size then h + 1 else O b') (w.drew.alloc (.cells ((xs.toList.take (rows.length * k)).toArray ++ ((List.range (rows2.length * k)).map yv).toArray ++ Builtin.zeroCells z.cells (grownCap w (rows.length + rows2.length) cap T - (rows.length + rows2.length))) T)) :=
       fun b' hb' hO => ⟨by simp [Nat.ne_of_lt hb', hO], heap_alloc_old w.drew _ hb'⟩
      obtain ⟨q1, q2⟩ := rowsAt (xs.toList.take (rows.length * k)) ((xs.toList.take (rows.length * k)).toArray ++ ((List.range (rows2.length * k)).map yv).toArray ++ Builtin.zeroCells z.cells (grownCap w (rows.length + rows2.length) cap T - (rows.length + rows2.length))) _ _ hxl hxs hw (fun j hj => by
       rw [Array.getElem?_append_left (by simp only [Array.size_append, List.size_toArray, hxl, List.length_map, List.length_range, ← Nat.add_mul]; exact hj)]
       simp) hkp
      refine .inr ⟨w.heap.size, _, _, by simp, hB, by simp, heap_alloc_new w.drew _, by simpa using hge, hle, ?_, q1, q2⟩
      simp only [Array.size_append, List.size_toArray, size_zeroCells, hzz, hxl, List.length_map, List.length_range, ← Nat.add_mul]
      congr 1; omega
theorem TrOps.append {x y : Operand} {t k h T d by_ : Nat} {rows rows2 : List (List D)} {zs : List Value} (ho : o.op = .call { callee := .builtin .append, args := #[x, y], argTypes := #[t, t] }) (hg : o.guard = none) (hd : o.dst = some d) (hdN : d < N)
  (hx : opS e x = some (.o h)) (hM : look M h = some (.own k T rows)) (hy : opS e y = some (.d (.s k rows2))) (hk : esz P t = some k) (hT : P.elem t = T) (hz : zcells P T = some zs) (hzk : zs.length = k) (hby : P.bytesOf T = by_)
  (hone : ∀ r, r ∈ rows2 → r.all D.one = true) (hlen : (rows.length + rows2.length) ≤ maxLen) (hroom : (rows.length + rows2.length) * by_ ≤ 140737488355328)
  (hn : TrOps P N w0 O0 ops Q ((d, .o h) :: kill h e) ((h, .own k T (rows ++ rows2)) :: killM h M) rest) : TrOps P N w0 O0 ops Q e M (o :: rest) := by
 intro O H a w hst
 have hsz := hst.size
 have hr := hst.slotsAt #[x] x (by simp) _ hx
 have hv := hst.slotsAt #[y] y (by simp) _ hy
 generalize hxa : a.eval x = xa at hr
 generalize hya : a.eval y = ya at hv
 cases hv with
 | d _ _ hv =>
 cases hr with
 | o h _ =>
  obtain ⟨x', w', O', H', hrun, hkeep, hbel, hH', h1, hm'⟩ := run_append (ty := o.type) hk hT hz hzk hby (hst.mem h _ hM) hv hone hsz hlen hroom
  refine wpList_plain hg fun K hK => ?_
  unfold Oper.wp
  have hex : (execOp a.eval o).run P w = .ok (.value x') w' := by simp [execOp, ho, resolve, invoke, builtin, hxa, hya, hrun]
  rw [hex]
  refine hK _ _ (hn O' H' _ _ ⟨?_, ?_, hst.bl.trans hbel, fun b hb' => (hkeep.lab b (by omega)).trans (hst.lab b hb'), ?_, fun h' m hm => ?_⟩)
  ·rw [hd]; exact hst.df
  ·rw [hd]; simp [Act.put, hst.sz]
  ·rw [hd]
   refine put_slots hst.sz hdN (by rw [← hH']; exact .o h (by rw [hH']; exact h1)) fun n s hs => ?_
   obtain ⟨s', hs', hor⟩ := look_kill hs
   obtain ⟨z, hz, hr⟩ := hst.slots n s' hs'
   rcases hor with ⟨hok, rfl⟩ | rfl
   ·exact ⟨z, hz, hr.mono hkeep 9 (fun h he => by cases he; exact hok) (.inr (by omega))⟩
   ·exact ⟨z, hz, .u z⟩
  ·rcases look_cons hm with ⟨rfl, rfl⟩ | ⟨hne, hm⟩
   ·exact hm'
   ·obtain ⟨m2, hm2, hor⟩ := look_killM hm
    rcases hor with rfl | ⟨hn', rfl⟩
    ·trivial
    ·exact ((hst.mem h' m2 hm2).kill (h := h)).mono hkeep (by simp; omega) (by simp; omega) 9 (fun h1 he => by cases he; exact Mo.kill_ok _ m2) (.inr (by omega))
end
end Go.Eng
end

section
namespace Go.Eng
def fz0 (h : Nat) (x : D) (s : S) : S :=
 match s with
 | .o h' => bif Nat.beq h' h then .d x else .o h'
 | s => bif S.ok 9 h s then s else .u
def fz (h : Nat) (x : D) (s : S) : S :=
 match s with
 | .g cs => .g (cs.map (fz0 h x))
 | .t cs => .t (cs.map (fz0 h x))
 | s => fz0 h x s
def Mo.fz (h : Nat) (x : D) : Mo → Mo
 | .box cs => .box (cs.map (fz0 h x))
 | m => m
def fzE (h : Nat) (x : D) (e : Env) : Env := e.map fun p => (p.1, fz h x p.2)
def fzM (h : Nat) (x : D) (M : Mem) : Mem := M.map fun p => (p.1, bif Nat.beq p.1 h then .gone else p.2.fz h x)
inductive RetL (P : Program) (e : Env) (M : Mem) : List ResultVar → List S → Prop
 | nil : RetL P e M [] []
 | tmp {t : Nat} {s : S} {rs : List ResultVar} {l : List S} (h : look e t = some s) (t' : RetL P e M rs l) : RetL P e M (.tmp t :: rs) (s :: l)
 | cellN {c t h : Nat} {cs : List S} {rs : List ResultVar} {l : List S} (hc : look e c = some (.r h 0)) (hM : look M h = some (.box cs)) (ht : vsz P t = some (true, cs.length)) (t' : RetL P e M rs l) : RetL P e M (.cell c t :: rs) (.g cs :: l)
 | cell1 {c t h : Nat} {s : S} {rs : List ResultVar} {l : List S} (hc : look e c = some (.r h 0)) (hM : look M h = some (.box [s])) (ht : vsz P t = some (false, 1)) (t' : RetL P e M rs l) : RetL P e M (.cell c t :: rs) (s :: l)
def rv (tmps : Array Value) : ResultVar → Sem Value
 | .tmp t => pure (tmps.getD t undef)
 | .cell a t => do loadVar t (← asAddr (tmps.getD a undef))
theorem results_rv (fn : Func) (tmps : Array Value) : results fn tmps = (do let vs ← fn.results.mapM (rv tmps); pure (if h : vs.size = 1 then vs[0] else .tuple vs)) := rfl
def one : List S → S
 | [s] => s
 | l => .t l
def Ret (fr : Bool) (w0 : World) (O0 : Nat → Nat) (res : S) : Ending → World → Prop :=
 fun en w' => ∃ x, en = .returned x ∧ Below w0.heap.size w0 w' ∧ RepS (freshO fr O0 w0.heap.size) zH w' x res
def entry : Nat → List S → Env
 | _, [] => []
 | k, s :: l => (k, s) :: entry (k + 1) l
theorem look_entry : ∀ (l : List S) (k n : Nat) (s : S), look (entry k l) n = some s → k ≤ n ∧ l[n - k]? = some s
 | [], k, n, s, h => by simp [entry, look] at h
 | s0 :: l, k, n, s, h => by
  simp only [entry] at h
  rcases look_cons h with ⟨rfl, rfl⟩ | ⟨hne, h⟩
  ·exact ⟨Nat.le_refl _, by simp⟩
  ·obtain ⟨h1, h2⟩ := look_entry l (k + 1) n s h
   refine ⟨by omega, ?_⟩
   have : n - k = (n - (k + 1)) + 1 := by omega
   rw [this]; simpa using h2
section
variable {P : Program} {N : Nat} {w0 : World} {O0 : Nat → Nat} {ops : Array Oper} {Q : Post} {e : Env} {M : Mem} {rest : List Oper} {o : Oper} {s : S}
theorem RetL.run {O : Nat → Nat} {H : Nat → Value} {a : Act} {w : World} (hst : St N w0 O0 e M O H a w) {rs : List ResultVar} {l : List S} (h : RetL P e M rs l) :
  ∃ vs : List Value, (rs.mapM (rv a.tmps)).run P w = .ok vs w ∧ vs.length = l.length ∧
   ∀ (i : Nat) (x : Value) (s : S), vs[i]? = some x → l[i]? = some s → RepS O H w x s := by
 induction h with
 | nil => exact ⟨[], by simp, rfl, fun i x s h => by simp at h⟩
 | tmp h t' ih =>
  rename_i t s rs l
  obtain ⟨vs, h1, h2, h3⟩ := ih
  obtain ⟨x, hx, hr⟩ := hst.slots _ _ h
  refine ⟨x :: vs, ?_, by simp [h2], fun i y s hy hs => ?_⟩
  ·have : (rv a.tmps (.tmp t)).run P w = .ok x w := by simp [rv, Array.getD_eq_getD_getElem?, hx]
   simp only [List.mapM_cons, Sem.run_bind, Sem.run_pure, Result.andThen_ok, h1, this]
  ·cases i with
   | zero => simp at hy hs; subst hy; subst hs; exact hr
   | succ i => exact h3 i y s (by simpa using hy) (by simpa using hs)
 | cellN hc hM ht t' ih =>
  rename_i c t h cs rs l
  obtain ⟨vs, h1, h2, h3⟩ := ih
  obtain ⟨x, hx, hr⟩ := hst.slots _ _ hc
  obtain ⟨b, xs, T, hH, _, _, hb, hsz, hcs⟩ := hst.mem h _ hM
  cases hr with
  | r _ b' _ hH' =>
   rw [hH] at hH'
   simp only [Value.pointer.injEq, Option.some.injEq, Addr.mk.injEq, and_true] at hH'
   subst hH'
   have hl := run_loadVarN (P := P) (t := t) (xs := xs.toList) (by simpa [hsz] using ht) (w := w) (b := b) (off := 0) (fun j v hj => cellOf hb (by simpa using hj))
   refine ⟨.agg xs.toList.toArray :: vs, ?_, by simp [h2], fun i y s hy hs => ?_⟩
   ·have : (rv a.tmps (.cell c t)).run P w = .ok (.agg xs.toList.toArray) w := by simp only [rv, Array.getD_eq_getD_getElem?, hx, Option.getD_some, asAddr, Sem.run_bind, Sem.run_pure, Result.andThen_ok, hl]
    simp only [List.mapM_cons, Sem.run_bind, Result.andThen_ok, h1, Sem.run_pure, this]
   ·cases i with
    | zero =>
     simp only [List.getElem?_cons_zero, Option.some.injEq] at hy hs; subst hy; subst hs
     have : RepC O H w xs cs := ⟨hsz, hcs⟩
     simpa using this.g
    | succ i => exact h3 i y s (by simpa using hy) (by simpa using hs)
 | cell1 hc hM ht t' ih =>
  rename_i c t h s rs l
  obtain ⟨vs, h1, h2, h3⟩ := ih
  obtain ⟨x, hx, hr⟩ := hst.slots _ _ hc
  obtain ⟨b, xs, T, hH, _, _, hb, hsz, hcs⟩ := hst.mem h _ hM
  cases hr with
  | r _ b' _ hH' =>
   rw [hH] at hH'
   simp only [Value.pointer.injEq, Option.some.injEq, Addr.mk.injEq, and_true] at hH'
   subst hH'
   obtain ⟨z, hz, hr, _⟩ := hcs 0 s rfl
   refine ⟨z :: vs, ?_, by simp [h2], fun i y s' hy hs => ?_⟩
   ·have : (rv a.tmps (.cell c t)).run P w = .ok z w := by simp only [rv, Array.getD_eq_getD_getElem?, hx, Option.getD_some, asAddr, Sem.run_bind, Sem.run_pure, Result.andThen_ok, run_loadVar1 ht (cellOf hb hz)]
    simp only [List.mapM_cons, Sem.run_bind, Result.andThen_ok, h1, Sem.run_pure, this]
   ·cases i with
    | zero => simp at hy hs; subst hy; subst hs; exact hr
    | succ i => exact h3 i y s' (by simpa using hy) (by simpa using hs)
theorem St.viewO {O : Nat → Nat} {H : Nat → Value} {a : Act} {w : World} (hst : St N w0 O0 e M O H a w) {n : Nat} {x : Value} {s s' : S} (hr : RepS O H w x s) (hv : S.view M n s = some s') : RepS (ext O0 w0.heap.size) zH w x s' :=
 RepS.viewG hst.mem (fun b hb => by
  unfold ext
  split
  ·exact (hst.lab b (by assumption)).symm.trans hb
  ·rfl) (fun b h m _ hB _ => by unfold ext; rw [if_neg (by omega)]) n hr hv
theorem At.ret {fn : Func} {rs : List ResultVar} {l : List S} {s' res : S} (hres : fn.results.toList = rs) (hl : RetL P e M rs l) (hv : S.view M 9 (one l) = some s') (hle : Le s' res) :
  At N w0 O0 e M .ret (bodyPost P fn (Ret false w0 O0 res)) := by
 intro O H a w hst
 obtain ⟨vs, h1, h2, h3⟩ := hl.run hst
 have hrun : (results fn a.tmps).run P w = .ok (if h : vs.toArray.size = 1 then vs.toArray[0] else .tuple vs.toArray) w := by
  rw [results_rv, Array.mapM_eq_mapM_toList, hres]
  simp only [Sem.run_bind, Sem.run_map, h1, Result.andThen_ok, Sem.run_pure]
 refine ⟨hst.df, _, hrun, _, rfl, hst.bl, hle _ _ _ _ (hst.viewO (n := 9) ?_ hv)⟩
 clear hrun hv hl h1
 cases l with
 | nil =>
  cases vs with
  | nil => simpa [one] using RepS.t (O := O) (H := H) (w := w) [] [] rfl h3
  | cons v vs => simp at h2
 | cons s l =>
  cases vs with
  | nil => simp at h2
  | cons v vs =>
   cases l with
   | nil =>
    cases vs with
    | nil => simpa [one] using h3 0 v s rfl rfl
    | cons v2 vs => simp at h2
   | cons s2 l =>
    cases vs with
    | nil => simp at h2
    | cons v2 vs => simpa [one] using RepS.t (O := O) (H := H) (w := w) (v :: v2 :: vs) (s :: s2 :: l) h2 h3
theorem Does.of_body {fr : Bool} {f : Nat} {args : List S} {res : S} {fn : Func} {c : Code} (hf : P.funcs[f]? = some fn) (hb : fn.body = some c) (hN : fn.ntmps = N) (hlen : args.length ≤ N)
  (can : ∀ xs w, (callFunc f xs).run P w = .ok (.enter f xs) w) (h : ∀ (w0 : World) (O0 : Nat → Nat), Tr P N w0 O0 (entry 0 args) [] c (bodyPost P fn (Ret fr w0 O0 res))) : Does P fr f args res := by
 refine ⟨can, fun O w xs hl hx => calls_of_wp hf hb (ww_wp <| h w O O zH _ w ⟨rfl, ?_, .refl _ _, fun _ _ => rfl, fun n s hs => ?_, fun n s hs => by cases hs⟩)⟩
 ·simp; omega
 ·obtain ⟨_, hn⟩ := look_entry args 0 n s hs
  simp only [Nat.sub_zero] at hn
  have hlt : n < xs.length := by rw [hl]; exact (List.getElem?_eq_some_iff.1 hn).1
  refine ⟨xs[n], ?_, hx n _ s (List.getElem?_eq_getElem hlt) hn⟩
  rw [Array.getElem?_append_left (by simpa using hlt)]
  simp [hlt]
theorem fz_st {h : Nat} {dd : D} {O O' : Nat → Nat} {H : Nat → Value} {a : Act} {w : World} (hst : St N w0 O0 e M O H a w) (hk : Keeps O w O' w) (hrep : RepD O' w (H h) dd) (hlab : ∀ b, b < w0.heap.size → O' b = O b) (hother : ∀ b h', h' ≠ h → O b = h' + 1 → O' b = h' + 1) :
  St N w0 O0 (fzE h dd e) (fzM h dd M) O' H a w := by
 have f0 : ∀ (x : Value) (s : S), RepS O H w x s → RepS O' H w x (fz0 h dd s) := by
  intro x s hr
  have hd : ∀ s, RepS O H w x s → RepS O' H w x (bif S.ok 9 h s then s else .u) := fun s hr => by
   cases S.ok 9 h s with
   | true => exact hr.keeps hk
   | false => exact .u x
  cases hr with
  | o h' h1 =>
   simp only [fz0]
   cases hb : Nat.beq h' h with
   | true => rw [Nat.eq_of_beq_eq_true hb]; exact .d _ _ hrep
   | false => exact .o h' h1
  | d x y hh => exact hd _ (.d x y hh)
  | g xs ss hl h1 hg => exact hd _ (.g xs ss hl h1 hg)
  | p b off cs y hO hy hr => exact hd _ (.p b off cs y hO hy hr)
  | r h b k hH => exact hd _ (.r h b k hH)
  | q h b k i j len cap hH => exact hd _ (.q h b k i j len cap hH)
  | w h b k lo len L C hH hl => exact hd _ (.w h b k lo len L C hH hl)
  | a x K hK => exact hd _ (.a x K hK)
  | t xs ss hl hg => exact hd _ (.t xs ss hl hg)
  | f fn xs ys fs cs hl hl' hg hg' => exact hd _ (.f fn xs ys fs cs hl hl' hg hg')
  | c a k rows hh => exact hd _ (.c a k rows hh)
  | u => exact hd _ (.u x)
 have f1 : ∀ (x : Value) (s : S), RepS O H w x s → RepS O' H w x (fz h dd s) := by
  intro x s hr
  have hr' := hr
  cases hr with
  | g xs ss hl h1 hg =>
   refine .g xs _ (by simpa using hl) h1 fun i x s hx hs => ?_
   simp only [List.getElem?_map, Option.map_eq_some_iff] at hs
   obtain ⟨s', hs', rfl⟩ := hs
   exact f0 x s' (hg i x s' hx hs')
  | t xs ss hl hg =>
   refine .t xs _ (by simpa using hl) fun i x s hx hs => ?_
   simp only [List.getElem?_map, Option.map_eq_some_iff] at hs
   obtain ⟨s', hs', rfl⟩ := hs
   exact f0 x s' (hg i x s' hx hs')
  | d => exact f0 _ _ hr'
  | p => exact f0 _ _ hr'
  | r => exact f0 _ _ hr'
  | o => exact f0 _ _ hr'
  | q => exact f0 _ _ hr'
  | w => exact f0 _ _ hr'
  | a => exact f0 _ _ hr'
  | f => exact f0 _ _ hr'
  | c => exact f0 _ _ hr'
  | u => exact f0 _ _ hr'
 refine ⟨hst.df, hst.sz, hst.bl, fun b hb => (hlab b hb).trans (hst.lab b hb), fun n s hs => ?_, fun n m hm => ?_⟩
 ·unfold fzE at hs
  rw [look_map (fun _ v => fz h dd v)] at hs
  cases hl : look e n with
  | none => simp [hl] at hs
  | some s' =>
   simp only [hl, Option.map_some, Option.some.injEq] at hs
   subst hs
   obtain ⟨x, hx, hr⟩ := hst.slots n s' hl
   exact ⟨x, hx, f1 x s' hr⟩
 ·unfold fzM at hm
  rw [look_map (fun d (v : Mo) => bif Nat.beq d h then Mo.gone else v.fz h dd)] at hm
  cases hl : look M n with
  | none => simp [hl] at hm
  | some m' =>
   simp only [hl, Option.map_some, Option.some.injEq] at hm
   cases hb : Nat.beq n h with
   | true => rw [hb] at hm; subst hm; trivial
   | false =>
    rw [hb] at hm
    simp only [cond_false] at hm
    subst hm
    have hne : n ≠ h := fun he => by rw [he] at hb; simp at hb
    have := hst.mem n m' hl
    cases m' with
    | gone => trivial
    | fr K => exact K.mono _ _ _ _ _ hk this
    | any K => exact K.mono _ _ _ _ _ _ _ (fun b hb' hO => ⟨hO.elim (fun h0 => (hk b hb' h0).1.trans h0.symm) (fun h1 => (hother b n hne h1).trans h1.symm), rfl⟩) this
    | own k' T' rows' =>
     rcases this with ⟨h0, h1⟩ | ⟨b, cap, xs, hH, hB, hO, hb, hlc, hcm, hsz, hw, hc⟩
     ·exact .inl ⟨h0, h1⟩
     ·exact .inr ⟨b, cap, xs, hH, hB, hother b n hne hO, hb, hlc, hcm, hsz, hw, fun i r j d hi hj => by
       obtain ⟨x, hx, hr, h1⟩ := hc i r j d hi hj
       exact ⟨x, hx, hr.mono hk, h1⟩⟩
    | box cs =>
     obtain ⟨b, xs, T, hH, hB, hO, hb, hsz, hc⟩ := this
     refine ⟨b, xs, T, hH, hB, hother b n hne hO, hb, by simpa using hsz, fun i s hs => ?_⟩
     simp only [List.getElem?_map, Option.map_eq_some_iff] at hs
     obtain ⟨s', hs', rfl⟩ := hs
     obtain ⟨x, hx, hr, h1⟩ := hc i s' hs'
     exact ⟨x, hx, f0 x s' hr, h1⟩
theorem freeze_st {h k T : Nat} {rows : List (List D)} (hM : look M h = some (.own k T rows)) {O : Nat → Nat} {H : Nat → Value} {a : Act} {w : World} (hst : St N w0 O0 e M O H a w) :
  ∃ O', St N w0 O0 (fzE h (.s k rows) e) (fzM h (.s k rows) M) O' H a w := by
 obtain ⟨O', hk, hrep, hlab, hother⟩ : ∃ O' : Nat → Nat, Keeps O w O' w ∧ RepD O' w (H h) (.s k rows) ∧ (∀ b, b < w0.heap.size → O' b = O b) ∧ (∀ b h', h' ≠ h → O b = h' + 1 → O' b = h' + 1) := by
  rcases hst.mem h _ hM with ⟨h0, rfl⟩ | ⟨b, cap, xs, hH, hB, hO, hb, hlc, hcm, hsz, hw, hc⟩
  ·exact ⟨O, fun _ _ h => ⟨h, rfl⟩, by rw [h0]; exact .e none 0 k (by simp [maxLen]), fun _ _ => rfl, fun _ _ _ h => h⟩
  ·refine ⟨fun b' => if b' = b then 0 else O b', fun b' _ h' => ⟨by (by_cases hq : b' = b) <;> simp [hq, h'], rfl⟩, ?_, fun b' hb' => ?_, fun b' h' hne h1 => ?_⟩
   ·rw [hH]
    have hkp : Keeps O w (fun b' => if b' = b then 0 else O b') w := fun b' _ h' => ⟨by (by_cases hq : b' = b) <;> simp [hq, h'], rfl⟩
    refine .s b 0 cap k rows (fun n => (xs[n]?).getD undef) hlc hcm hw (fun _ _ _ _ _ _ => by simp) (fun i r j d hi hj => ?_) (fun i r j d hi hj => ?_)
    ·obtain ⟨x, hx, _⟩ := hc i r j d hi hj
     rw [cellOf hb (by rw [Nat.zero_add]; exact hx), hx]; rfl
    ·obtain ⟨x, hx, hr, _⟩ := hc i r j d hi hj
     simp only [hx, Option.getD_some]; exact hr.mono hkp
   ·have : b' ≠ b := by omega
    simp [this]
   ·have : b' ≠ b := by intro he; rw [he, hO] at h1; omega
    simp [this, h1]
 exact ⟨O', fz_st hst hk hrep hlab hother⟩
theorem Tr.freeze {c : Code} (h : Nat) {k T : Nat} {rows : List (List D)} (hM : look M h = some (.own k T rows)) (hc : Tr P N w0 O0 (fzE h (.s k rows) e) (fzM h (.s k rows) M) c Q) : Tr P N w0 O0 e M c Q :=
 fun O H a w hst => let ⟨O', h'⟩ := freeze_st hM hst; hc O' H a w h'
theorem TrOps.freeze (h : Nat) {k T : Nat} {rows : List (List D)} (hM : look M h = some (.own k T rows)) (hc : TrOps P N w0 O0 ops Q (fzE h (.s k rows) e) (fzM h (.s k rows) M) rest) : TrOps P N w0 O0 ops Q e M rest :=
 fun O H a w hst => let ⟨O', h'⟩ := freeze_st hM hst; hc O' H a w h'
end
end Go.Eng
end

section
namespace Go.Eng
structure PO where
 d : Nat
 s : S
 mo : Option (Nat × Mo)
 st : Option (Nat × Mo × Mo) := none
 ds : Bool := true
def PO.env (p : PO) (e : Env) : Env := bif p.ds then (p.d, p.s) :: e else e
def PO.mem (p : PO) (M : Mem) : Mem := match p.st with | some (h, _, m') => (h, m') :: M | none => match p.mo with | some m => m :: M | none => M
def finE (e : Env) (ps : List PO) : Env := ps.foldl (fun e p => p.env e) e
def finM (M : Mem) (ps : List PO) : Mem := ps.foldl (fun M p => p.mem M) M
def dropM (hs : List Nat) (M : Mem) : Mem := M.filter fun x => !(hs.any fun h => Nat.beq h x.1)
def Met (ops : Array Oper) (e : Env) (o : Oper) (b : Bool) : Prop :=
 match o.guard with
 | none => b = true
 | some (j, want) => ∃ (oj : Oper) (d : Nat) (v : Value), ops[j]? = some oj ∧ oj.dst = some d ∧ look e d = some (.d (.v v)) ∧ b = isB want v
def OpSt (P : Program) (B : Nat) (o : Oper) (e : Env) (h : Nat) (m m' : Mo) (s : S) : Prop :=
 ∀ (O : Nat → Nat) (H : Nat → Value) (a : Act) (w : World), B ≤ w.heap.size → Slots a O H w e o.op.operands → MHold O H B w h m →
  ∀ K : Act → World → Prop, (∀ w' x, Keep (some h) none O H w O H w' → Below B w w' → MHold O H B w' h m' → RepS O H w' x s → K (a.put o.dst x) w') → o.wp P a w K (fun _ _ _ => False)
def PStep (P : Program) (B : Nat) (ops : Array Oper) (hs : List Nat) (M : Mem) (e : Env) (o : Oper) (p : PO) : Prop :=
 match p.st with
 | none => p.ds = true ∧ o.dst = some p.d ∧ ((Met ops e o true ∧ OpSem P B o e (dropM hs M) p.s p.mo) ∨ (Met ops e o false ∧ p.s = .d (.v undef) ∧ p.mo = none))
 | some (h, m, m') => o.dst = (bif p.ds then some p.d else none) ∧ o.guard = none ∧ p.mo = none ∧ look M h = some m ∧ OpSt P B o e h m m' p.s
def PW (P : Program) (B : Nat) (ops : Array Oper) (hs : List Nat) (M : Mem) : List Oper → List PO → Env → Prop
 | [], [], _ => True
 | o :: os, p :: ps, e => PStep P B ops hs M e o p ∧ PW P B ops hs M os ps (p.env e)
 | _, _, _ => False
def prec (ops : Array Oper) : Nat → Nat → Nat → Bool
 | 0, _, _ => false
 | n + 1, i, j => match ops[i]? with
  | some o => o.after.any fun e => Region.binds .any e && (Nat.beq e.on j || prec ops n e.on j)
  | none => false
def tmpsOf (ops : Array Oper) (o : Oper) : List Nat :=
 (o.op.operands.toList.filterMap fun | .tmp t => some t | _ => none) ++ (match o.guard with | some (g, _) => ((ops[g]?).bind (·.dst)).toList | none => [])
def parOk (ops : Array Oper) (k : Nat) : Bool :=
 let ds : List (Option Nat) := ops.toList.map (·.dst)
 (List.range ops.size).all fun i => match ops[i]? with
  | none => false
  | some o =>
   (o.after.all fun e => !(Region.binds .any e) || decide (e.on < i)) &&
   (if i < k then
    (List.range k).all fun j => match ds.getD j none with
     | some d => (i == j || o.dst != some d) && (!((tmpsOf ops o).contains d) || (decide (j < i) && prec ops 9 i j) || (decide (i < j) && prec ops 9 j i))
     | none => true
   else (List.range i).all fun j => prec ops 9 i j)
def ParHd (ops : Array Oper) (k : Nat) : Prop := ∀ (i : Nat) (o : Oper), i < k → ops[i]? = some o → ((List.range k).all fun j => match (ops.toList.map (·.dst)).getD j none with
 | some d => (i == j || o.dst != some d) && (!((tmpsOf ops o).contains d) || (decide (j < i) && prec ops 9 i j) || (decide (i < j) && prec ops 9 j i))
 | none => true) = true
def ParHdK (ops : Array Oper) (k kk : Nat) : Prop := ∀ (i : Nat) (o : Oper), i < k → i ≠ kk → ops[i]? = some o → ∀ j, j < k → j ≠ kk → (match (ops.toList.map (·.dst)).getD j none with
 | some d => (i == j || o.dst != some d) && (!((tmpsOf ops o).contains d) || (decide (j < i) && prec ops 9 i j) || (decide (i < j) && prec ops 9 j i))
 | none => true) = true
theorem ParHd.skip {ops : Array Oper} {k kk : Nat} (h : ParHd ops k) : ParHdK ops k kk := fun i o hi _ ho j hj _ => List.all_eq_true.1 (h i o hi ho) j (List.mem_range.2 hj)
theorem parOk_hd {ops : Array Oper} {k : Nat} (hok : parOk ops k = true) : ParHd ops k := by
 intro i o hik ho
 unfold parOk at hok
 simp only [List.all_eq_true, List.mem_range] at hok
 have := hok i (Array.getElem?_eq_some_iff.1 ho).1
 simp only [ho, hik, if_true, Bool.and_eq_true] at this
 exact this.2
def handOk (e0 : Env) (M0 : Mem) (ps : List PO) : Bool :=
 ps.all fun p => match p.mo with
  | none => true
  | some (h, _) => e0.all (fun x => S.ok 9 h x.2) && M0.all (fun x => !(Nat.beq x.1 h) && Mo.ok 9 h x.2) &&
    ps.all fun q => (Nat.beq q.d p.d && q.st.isNone) || (S.ok 9 h q.s && (match q.mo with | none => true | some (h', m') => !(Nat.beq h' h) && Mo.ok 9 h m') &&
     (match q.st with | none => true | some (h', m', m'') => !(Nat.beq h' h) && Mo.ok 9 h m' && Mo.ok 9 h m''))
def stOk (hs : List Nat) (ps : List PO) : Bool :=
 (List.range ps.length).all (fun i => match ps[i]? with
  | some p => match p.st with
   | none => true
   | some (h, _, _) => hs.any (fun x => Nat.beq x h) && (List.range ps.length).all fun j => i == j || match ps[j]? with
    | some q => (match q.st with | none => true | some (h', _, _) => !(Nat.beq h' h)) && (match q.mo with | none => true | some (h', _) => !(Nat.beq h' h))
    | none => true
  | none => true) && hs.all fun h => ps.any fun p => match p.st with | some (h', _, _) => Nat.beq h' h | none => false
theorem prec_closed {ops : Array Oper} {L : Array Bool} (hcl : ∀ i, L.getD i false = true → ∀ o, ops[i]? = some o → ∀ e, e ∈ o.after → Region.binds .any e = true → L.getD e.on false = true) :
  ∀ n i j, prec ops n i j = true → (∀ o, ops[i]? = some o → ∀ e, e ∈ o.after → Region.binds .any e = true → L.getD e.on false = true) → L.getD j false = true
 | 0, i, j, h, _ => by simp [prec] at h
 | n + 1, i, j, h, hi => by
  simp only [prec] at h
  cases ho : ops[i]? with
  | none => simp [ho] at h
  | some o =>
   simp only [ho, Array.any_eq_true'] at h
   obtain ⟨e, he, h⟩ := h
   simp only [Bool.and_eq_true, Bool.or_eq_true] at h
   obtain ⟨hb, h⟩ := h
   have hL := hi o ho e he hb
   rcases h with h | h
   ·rw [← Nat.eq_of_beq_eq_true h]; exact hL
   ·exact prec_closed hcl n e.on j h (fun o' ho' e' he' hb' => hcl e.on hL o' ho' e' he' hb')
section
variable {P : Program} {N : Nat} {w0 : World} {O0 : Nat → Nat} {ops : Array Oper} {Q : Post} {e0 : Env} {M0 : Mem} {hs : List Nat}
theorem PW.get {B : Nat} : ∀ {os : List Oper} {ps : List PO} {e : Env}, PW P B ops hs M0 os ps e → os.length = ps.length ∧
  ∀ (i : Nat) (o : Oper) (p : PO), os[i]? = some o → ps[i]? = some p → PStep P B ops hs M0 (finE e (ps.take i)) o p
 | [], [], e, _ => ⟨rfl, fun i o p h => by simp at h⟩
 | [], _ :: _, _, h => h.elim
 | _ :: _, [], _, h => h.elim
 | o :: os, p :: ps, e, h => by
  obtain ⟨h1, h2⟩ := h
  obtain ⟨i1, i2⟩ := PW.get h2
  refine ⟨by simp [i1], fun i o' p' ho hp => ?_⟩
  cases i with
  | zero => simp at ho hp; subst ho; subst hp; simpa [finE] using h1
  | succ i => simpa [finE] using i2 i o' p' (by simpa using ho) (by simpa using hp)
theorem look_finE {n : Nat} {s : S} : ∀ {ps : List PO} {e : Env}, look (finE e ps) n = some s → (∃ (i : Nat) (p : PO), ps[i]? = some p ∧ p.ds = true ∧ p.d = n ∧ p.s = s) ∨ ((∀ p, p ∈ ps → p.ds = true → p.d ≠ n) ∧ look e n = some s)
 | [], e, h => .inr ⟨fun p hp => by simp at hp, h⟩
 | p :: ps, e, h => by
  rcases look_finE (ps := ps) (e := p.env e) (by simpa [finE] using h) with ⟨i, q, hq, h0, h1, h2⟩ | ⟨h1, h2⟩
  ·exact .inl ⟨i + 1, q, by simpa using hq, h0, h1, h2⟩
  ·cases hp : p.ds with
   | true =>
    simp only [PO.env, hp, cond_true] at h2
    rcases look_cons h2 with ⟨rfl, rfl⟩ | ⟨hne, h2⟩
    ·exact .inl ⟨0, p, rfl, hp, rfl, rfl⟩
    ·refine .inr ⟨fun q hq hqs => ?_, h2⟩
     rcases List.mem_cons.1 hq with rfl | hq
     ·exact fun h => hne h.symm
     ·exact h1 q hq hqs
   | false =>
    simp only [PO.env, hp, cond_false] at h2
    refine .inr ⟨fun q hq hqs => ?_, h2⟩
    rcases List.mem_cons.1 hq with rfl | hq
    ·rw [hp] at hqs; cases hqs
    ·exact h1 q hq hqs
theorem look_finM {h : Nat} {m : Mo} : ∀ {ps : List PO} {M : Mem}, look (finM M ps) h = some m → (∃ (i : Nat) (p : PO), ps[i]? = some p ∧ p.st = none ∧ p.mo = some (h, m)) ∨ (∃ (i : Nat) (p : PO) (m0 : Mo), ps[i]? = some p ∧ p.st = some (h, m0, m)) ∨ ((∀ p, p ∈ ps → ∀ h' m0 m1, p.st = some (h', m0, m1) → h' ≠ h) ∧ look M h = some m)
 | [], M, hm => .inr (.inr ⟨fun p hp => by simp at hp, hm⟩)
 | p :: ps, M, hm => by
  have hm' : look (finM (p.mem M) ps) h = some m := by simpa [finM] using hm
  rcases look_finM hm' with ⟨i, q, hq, h0, h1⟩ | ⟨i, q, m0, hq, h1⟩ | ⟨h0, h1⟩
  ·exact .inl ⟨i + 1, q, by simpa using hq, h0, h1⟩
  ·exact .inr (.inl ⟨i + 1, q, m0, by simpa using hq, h1⟩)
  ·cases hs : p.st with
   | none =>
    have h0' : ∀ q, q ∈ p :: ps → ∀ h' m0 m1, q.st = some (h', m0, m1) → h' ≠ h := fun q hq => by
     rcases List.mem_cons.1 hq with rfl | hq
     ·intro h' m0 m1 he; rw [hs] at he; cases he
     ·exact h0 q hq
    cases hp : p.mo with
    | none => simp only [PO.mem, hs, hp] at h1; exact .inr (.inr ⟨h0', h1⟩)
    | some mm =>
     obtain ⟨h', m'⟩ := mm
     simp only [PO.mem, hs, hp] at h1
     rcases look_cons h1 with ⟨rfl, rfl⟩ | ⟨_, h1⟩
     ·exact .inl ⟨0, p, rfl, hs, hp⟩
     ·exact .inr (.inr ⟨h0', h1⟩)
   | some x =>
    obtain ⟨h', m0, m1⟩ := x
    simp only [PO.mem, hs] at h1
    rcases look_cons h1 with ⟨rfl, rfl⟩ | ⟨hne, h1⟩
    ·exact .inr (.inl ⟨0, p, m0, rfl, hs⟩)
    ·refine .inr (.inr ⟨fun q hq => ?_, h1⟩)
     rcases List.mem_cons.1 hq with rfl | hq
     ·intro h2 a b he; rw [hs] at he; cases he; exact fun e => hne e.symm
     ·exact h0 q hq
theorem look_dropM {h : Nat} {m : Mo} : ∀ {M : Mem}, look (dropM hs M) h = some m → look M h = some m ∧ h ∉ hs
 | [], hm => by simp [dropM, look] at hm
 | (a, b) :: M, hm => by
  unfold dropM at hm
  rw [List.filter_cons] at hm
  split at hm
  ·rename_i hx
   rcases look_cons hm with ⟨rfl, rfl⟩ | ⟨hne, hm⟩
   ·refine ⟨look_cons_same _ _ _, fun hmem => ?_⟩
    have h1 : (hs.any fun x => Nat.beq x h) = true := List.any_eq_true.2 ⟨h, hmem, by simp⟩
    simp only [Bool.not_eq_true', h1] at hx
    cases hx
   ·obtain ⟨i1, i2⟩ := look_dropM (M := M) hm
    refine ⟨?_, i2⟩
    simp only [look]
    have : Nat.beq a h = false := by cases hb : Nat.beq a h with
     | false => rfl
     | true => exact (hne (Nat.eq_of_beq_eq_true hb).symm).elim
    rw [this]; exact i1
  ·rename_i hx
   obtain ⟨i1, i2⟩ := look_dropM (M := M) hm
   refine ⟨?_, i2⟩
   simp only [look]
   have : Nat.beq a h = false := by cases hb : Nat.beq a h with
    | false => rfl
    | true =>
     exfalso
     have he := Nat.eq_of_beq_eq_true hb
     subst he
     simp only [Bool.not_eq_true', Bool.not_eq_false, List.any_eq_true] at hx
     obtain ⟨x, hx1, hx2⟩ := hx
     rw [Nat.eq_of_beq_eq_true hx2] at hx1
     exact i2 hx1
   rw [this]; exact i1
theorem look_dropM_of {h : Nat} {m : Mo} (hn : h ∉ hs) : ∀ {M : Mem}, look M h = some m → look (dropM hs M) h = some m
 | [], hm => by simp [look] at hm
 | (a, b) :: M, hm => by
  unfold dropM
  rw [List.filter_cons]
  rcases look_cons hm with ⟨rfl, rfl⟩ | ⟨hne, hm⟩
  ·rw [if_pos]
   ·exact look_cons_same _ _ _
   ·simp only [Bool.not_eq_true', ← Bool.not_eq_true, List.any_eq_true]
    rintro ⟨x, hx1, hx2⟩
    rw [Nat.eq_of_beq_eq_true hx2] at hx1
    exact hn hx1
  ·have ih := look_dropM_of hn (M := M) hm
   split
   ·simp only [look]
    have : Nat.beq a h = false := by cases hb : Nat.beq a h with
     | false => rfl
     | true => exact (hne (Nat.eq_of_beq_eq_true hb).symm).elim
    rw [this]; exact ih
   ·exact ih
structure PSt (N : Nat) (w0 : World) (O0 : Nat → Nat) (e0 : Env) (hs : List Nat) (M0 : Mem) (ps : List PO) (L : Array Bool) (O : Nat → Nat) (H : Nat → Value) (a : Act) (w : World) : Prop where
 df : a.defers = []
 sz : a.tmps.size = N
 bl : Below w0.heap.size w0 w
 lab : ∀ b, b < w0.heap.size → O b = O0 b
 old : ∀ n s, look e0 n = some s → (∀ j p, ps[j]? = some p → p.ds = true → p.d = n → L.getD j false = false) → ∃ x, a.tmps[n]? = some x ∧ RepS O H w x s
 new : ∀ (i : Nat) (p : PO), ps[i]? = some p → p.ds = true → L.getD i false = true → ∃ x, a.tmps[p.d]? = some x ∧ RepS O H w x p.s
 mold : ∀ h m, look (dropM hs M0) h = some m → MHold O H w0.heap.size w h m
 mnew : ∀ (i : Nat) (p : PO) (h : Nat) (m : Mo), ps[i]? = some p → L.getD i false = true → p.st = none → p.mo = some (h, m) → MHold O H w0.heap.size w h m
 sto : ∀ (i : Nat) (p : PO) (h : Nat) (m m' : Mo), ps[i]? = some p → p.st = some (h, m, m') → MHold O H w0.heap.size w h (if L.getD i false = true then m' else m)
theorem getD_set {L : Array Bool} {i j : Nat} (hi : i < L.size) : (L.setIfInBounds i true).getD j false = if j = i then true else L.getD j false := by
 simp only [Array.getD_eq_getD_getElem?, Array.getElem?_setIfInBounds]
 by_cases h : i = j
 ·subst h; simp [hi]
 ·simp [h, Ne.symm h]
theorem stOk_get {ps : List PO} (hso : stOk hs ps = true) {i : Nat} {p : PO} {h : Nat} {m m' : Mo} (hp : ps[i]? = some p) (hst : p.st = some (h, m, m')) : h ∈ hs ∧ ∀ (j : Nat) (q : PO), ps[j]? = some q → j ≠ i →
  (∀ h' m0 m1, q.st = some (h', m0, m1) → h' ≠ h) ∧ (∀ h' m0, q.mo = some (h', m0) → h' ≠ h) := by
 unfold stOk at hso
 simp only [Bool.and_eq_true] at hso
 have hi : i < ps.length := (List.getElem?_eq_some_iff.1 hp).1
 have h1 := List.all_eq_true.1 hso.1 i (List.mem_range.2 hi)
 simp only [hp, hst, Bool.and_eq_true] at h1
 obtain ⟨h1, h2⟩ := h1
 refine ⟨?_, fun j q hq hne => ?_⟩
 ·obtain ⟨x, hx, he⟩ := List.any_eq_true.1 h1
  rw [Nat.eq_of_beq_eq_true he] at hx
  exact hx
 ·have hj : j < ps.length := (List.getElem?_eq_some_iff.1 hq).1
  have h3 := List.all_eq_true.1 h2 j (List.mem_range.2 hj)
  simp only [hq, Bool.or_eq_true, Bool.and_eq_true, beq_iff_eq] at h3
  rcases h3 with h3 | ⟨h3, h4⟩
  ·exact absurd h3.symm hne
  ·refine ⟨fun h' m0 m1 he => ?_, fun h' m0 he => ?_⟩
   ·rw [he] at h3
    simp only [Bool.not_eq_true'] at h3
    exact fun e => by rw [e] at h3; simp at h3
   ·rw [he] at h4
    simp only [Bool.not_eq_true'] at h4
    exact fun e => by rw [e] at h4; simp at h4
theorem PSt.stepK {k kk : Nat} {ps : List PO} (hlen : ps.length = k) (g2 : ∀ (i : Nat) (o : Oper) (p : PO), i ≠ kk → (ops.toList.take k)[i]? = some o → ps[i]? = some p → PStep P w0.heap.size ops hs M0 (finE e0 (ps.take i)) o p) (gd : ∀ p, ps[kk]? = some p → p.ds = false ∧ p.mo = none ∧ p.st = none)
  (hk : k ≤ ops.size) (hok : ParHdK ops k kk) (hh : handOk e0 M0 ps = true) (hso : stOk hs ps = true) {L : Array Bool} (hL : L.size = ops.size)
  (hcl : ∀ i, L.getD i false = true → ∀ o, ops[i]? = some o → ∀ e, e ∈ o.after → Region.binds .any e = true → L.getD e.on false = true)
  {O : Nat → Nat} {H : Nat → Value} {a : Act} {w : World} (hst : PSt N w0 O0 e0 hs M0 ps L O H a w) {i : Nat} (hik : i < k) (hikk : i ≠ kk) {o : Oper} (ho : ops[i]? = some o)
  (hready : ∀ e, e ∈ o.after → Region.binds .any e = true → L.getD e.on false = true) (hnl : L.getD i false = false) (hN : ∀ p, p ∈ ps → p.ds = true → p.d < N)
  (K : Act → World → Prop) (hK : ∀ O' H' a' w', PSt N w0 O0 e0 hs M0 ps (L.setIfInBounds i true) O' H' a' w' → K a' w') : wpOp P ops Q i K a w := by
 have hoi : (ops.toList.take k)[i]? = some o := by rw [List.getElem?_take_of_lt hik]; simpa using ho
 obtain ⟨p, hp⟩ : ∃ p, ps[i]? = some p := ⟨ps[i], List.getElem?_eq_getElem (by omega)⟩
 have hstep := g2 i o p hikk hoi hp
 have hiL : i < L.size := by rw [hL]; omega
 have hchk : ∀ j q, ps[j]? = some q → q.ds = true → (i = j ∨ o.dst ≠ some q.d) ∧ (q.d ∈ tmpsOf ops o → (j < i ∧ L.getD j false = true) ∨ (i < j ∧ L.getD j false = false)) := by
  intro j q hq hqs
  have hjk : j < k := by rw [← hlen]; exact (List.getElem?_eq_some_iff.1 hq).1
  obtain ⟨oj, hoj⟩ : ∃ oj, ops[j]? = some oj := ⟨ops[j]'(by omega), Array.getElem?_eq_getElem (by omega)⟩
  have hjkk : j ≠ kk := fun e => by subst e; rw [(gd q hq).1] at hqs; cases hqs
  have hsj := g2 j oj q hjkk (by rw [List.getElem?_take_of_lt hjk]; simpa using hoj) hq
  have hdj : oj.dst = some q.d := by
   unfold PStep at hsj
   cases hqst : q.st with
   | none => rw [hqst] at hsj; exact hsj.2.1
   | some x => rw [hqst] at hsj; have h1 := hsj.1; rw [hqs] at h1; exact h1
  have hds : (ops.toList.map (·.dst)).getD j none = some q.d := by
   simp only [List.getD_eq_getElem?_getD, List.getElem?_map, Array.getElem?_toList, hoj, Option.map_some, Option.getD_some, hdj]
  have := hok i o hik hikk ho j hjk hjkk
  rw [hds] at this
  simp only [Bool.and_eq_true, Bool.or_eq_true, beq_iff_eq, bne_iff_ne, Bool.not_eq_true', decide_eq_true_eq] at this
  obtain ⟨h1, h2⟩ := this
  refine ⟨h1, fun hm => ?_⟩
  rcases h2 with (h2 | ⟨h2, h3⟩) | ⟨h2, h3⟩
  ·exact absurd hm (by simpa using h2)
  ·exact .inl ⟨h2, prec_closed hcl 9 i j h3 (fun o' ho' => by rw [ho] at ho'; cases ho'; exact hready)⟩
  ·refine .inr ⟨h2, ?_⟩
   cases hLj : L.getD j false with
   | false => rfl
   | true => have := prec_closed hcl 9 j i h3 (hcl j hLj); rw [hnl] at this; cases this
 have hread : ∀ t, t ∈ tmpsOf ops o → ∀ s, look (finE e0 (ps.take i)) t = some s → ∃ x, a.tmps[t]? = some x ∧ RepS O H w x s := by
  intro t ht s hs
  rcases look_finE hs with ⟨j, q, hq, hqs, h1, h2⟩ | ⟨h1, h2⟩
  ·have hji : j < i := by have := (List.getElem?_eq_some_iff.1 hq).1; simp at this; omega
   rw [List.getElem?_take_of_lt hji] at hq
   subst h1; subst h2
   exact hst.new j q hq hqs (((hchk j q hq hqs).2 ht).elim (fun h => h.2) (fun h => by have := h.1; omega))
  ·refine hst.old t s h2 fun j q hj hqs he => ?_
   rcases (hchk j q hj hqs).2 (by rw [he]; exact ht) with this | this
   case inr => exact this.2
   exfalso
   exact h1 q (List.mem_take_iff_getElem.2 ⟨j, by have := (List.getElem?_eq_some_iff.1 hj).1; omega, (List.getElem?_eq_some_iff.1 hj).2⟩) hqs he
 have hslots : Slots a O H w (finE e0 (ps.take i)) o.op.operands := by
  intro x hx s hs
  cases x with
  | tmp t =>
   obtain ⟨x, hx', hr⟩ := hread t (List.mem_append_left _ (List.mem_filterMap.2 ⟨.tmp t, by simpa using hx, rfl⟩)) s hs
   simpa [Act.eval, Array.getD_eq_getD_getElem?, hx'] using hr
  | const v => simp only [opS, Option.some.injEq] at hs; subst hs; exact .d _ _ (.v v)
  | global g => cases hs
  | func f =>
   simp only [opS, Option.some.injEq] at hs; subst hs
   exact .f f [] [] [] [] rfl rfl (fun i x s h => by simp at h) (fun i x s h => by simp at h)
 cases hps : p.st with
 | some x =>
  obtain ⟨h, m, m'⟩ := x
  simp only [PStep, hps] at hstep
  obtain ⟨hd, hg, hmo, hlm, hsem⟩ := hstep
  obtain ⟨hin, hoth⟩ := stOk_get hso hp hps
  have hold := hst.sto i p h m m' hp hps
  rw [if_neg (by simp [hnl])] at hold
  unfold wpOp
  simp only [ho]
  have hw : Region.wanted o (yielded ops a.tmps) = true := by unfold Region.wanted; rw [hg]
  rw [if_pos hw]
  refine .inl (Oper.wp_false (hsem O H a w hst.bl.size hslots hold K fun w' x h1 h2 h3 h4 => ?_) Q)
  have hsz := hst.bl.size
  have hdist' : ∀ j q, ps[j]? = some q → q.ds = true → j ≠ i → o.dst ≠ some q.d := fun j q hq hqs hne => ((hchk j q hq hqs).1).elim (fun h => (hne h.symm).elim) id
  have hputd : (a.put o.dst x).defers = a.defers := by unfold Act.put; split <;> rfl
  have hputs : (a.put o.dst x).tmps.size = a.tmps.size := by unfold Act.put; split <;> simp
  have hput : ∀ n, o.dst ≠ some n → (a.put o.dst x).tmps[n]? = a.tmps[n]? := fun n hn => by
   unfold Act.put
   cases hdd : o.dst with
   | none => rfl
   | some d => simp only; rw [Array.getElem?_setIfInBounds_ne (fun e => hn (by rw [hdd, e]))]
  refine hK O H _ _ ⟨by rw [hputd]; exact hst.df, by rw [hputs]; exact hst.sz, hst.bl.trans (h2.mono (Nat.le_refl _)), hst.lab, fun n s hs hne => ?_, fun j q hq hqs hj => ?_, fun h' mm hm' => ?_, fun j q h' mm hq hj hqs hmo' => ?_, fun j q h' mm mm' hq hqs => ?_⟩
  ·obtain ⟨y, hy, hr'⟩ := hst.old n s hs (fun j q hj hqs he => by
    have h := hne j q hj hqs he
    rw [getD_set hiL] at h
    split at h
    ·cases h
    ·exact h)
   refine ⟨y, ?_, hr'.mono0 h1⟩
   rw [hput n (fun e => ?_)]; exact hy
   rw [hd] at e
   cases hpd : p.ds with
   | true => rw [hpd] at e; have h := hne i p hp hpd (by simpa using e); rw [getD_set hiL, if_pos rfl] at h; cases h
   | false => rw [hpd] at e; cases e
  ·rw [getD_set hiL] at hj
   by_cases hji : j = i
   ·subst hji
    rw [hp] at hq; cases hq
    refine ⟨x, ?_, h4⟩
    rw [hd, hqs]
    simp [Act.put, hst.sz, hN p (List.mem_of_getElem? hp) hqs]
   ·rw [if_neg hji] at hj
    obtain ⟨y, hy, hr'⟩ := hst.new j q hq hqs hj
    exact ⟨y, by rw [hput _ (hdist' j q hq hqs hji)]; exact hy, hr'.mono0 h1⟩
  ·obtain ⟨_, hne⟩ := look_dropM hm'
   exact (hst.mold h' mm hm').mono h1 (by intro e; cases e; exact hne hin) (by simp) 0 (fun h he => by cases he) (.inl rfl)
  ·rw [getD_set hiL] at hj
   by_cases hji : j = i
   ·subst hji; rw [hp] at hq; cases hq; rw [hps] at hqs; cases hqs
   ·rw [if_neg hji] at hj
    exact (hst.mnew j q h' mm hq hj hqs hmo').mono h1 (by intro e; cases e; exact (hoth j q hq hji).2 _ _ hmo' rfl) (by simp) 0 (fun h he => by cases he) (.inl rfl)
  ·rw [getD_set hiL]
   by_cases hji : j = i
   ·subst hji
    rw [hp] at hq; cases hq
    rw [hps] at hqs; cases hqs
    rw [if_pos rfl]
    rw [if_pos rfl]; exact h3
   ·rw [if_neg hji]
    exact (hst.sto j q h' mm mm' hq hqs).mono h1 (by intro e; cases e; exact (hoth j q hq hji).1 _ _ _ hqs rfl) (by simp) 0 (fun h he => by cases he) (.inl rfl)
 | none =>
 simp only [PStep, hps] at hstep
 obtain ⟨hpd, hd, hstep⟩ := hstep
 have hdist : ∀ j q, ps[j]? = some q → q.ds = true → j ≠ i → q.d ≠ p.d := fun j q hq hqs hne he => ((hchk j q hq hqs).1).elim (fun h => hne h.symm) (fun h => h (by rw [hd, he]))
 have hmet : ∀ b, Met ops (finE e0 (ps.take i)) o b → Region.wanted o (yielded ops a.tmps) = b := by
  intro b hb
  unfold Met at hb
  unfold Region.wanted
  cases hg : o.guard with
  | none => rw [hg] at hb; simp [hb]
  | some gg =>
   obtain ⟨j, want⟩ := gg
   rw [hg] at hb
   obtain ⟨oj, d, c, h1, h2, h3, rfl⟩ := hb
   obtain ⟨x, hx, hr⟩ := hread d (List.mem_append_right _ (by simp [hg, h1, h2])) _ h3
   have hxb : x = c := by
    cases hr with
    | d _ _ q => cases q with
     | v _ => rfl
   subst hxb
   have := wanted_isB hg h1 h2 hx
   simpa [Region.wanted, hg] using this
 have hpN := hN p (List.mem_of_getElem? hp) hpd
 have hds : ∀ (j : Nat) (q : PO), j ≠ kk → ps[j]? = some q → q.st = none → q.ds = true := fun j q hjkk hq hqs => by
  have hjk : j < k := by rw [← hlen]; exact (List.getElem?_eq_some_iff.1 hq).1
  obtain ⟨oj, hoj⟩ : ∃ oj, ops[j]? = some oj := ⟨ops[j]'(by omega), Array.getElem?_eq_getElem (by omega)⟩
  have hsj := g2 j oj q hjkk (by rw [List.getElem?_take_of_lt hjk]; simpa using hoj) hq
  simp only [PStep, hqs] at hsj
  exact hsj.1
 have keepIt : ∀ (O' : Nat → Nat) (H' : Nat → Value) (w' : World) (x : Value), Keep none (p.mo.map (·.1)) O H w O' H' w' → Below w.heap.size w w' → RepS O' H' w' x p.s → (∀ h m, p.mo = some (h, m) → MHold O' H' w0.heap.size w' h m) →
   PSt N w0 O0 e0 hs M0 ps (L.setIfInBounds i true) O' H' (a.put (some p.d) x) w' := by
  intro O' H' w' x hk' hb hr hm
  have hsz := hst.bl.size
  have hokH : ∀ h, p.mo.map (·.1) = some h → (∀ n s, look e0 n = some s → S.ok 9 h s = true) ∧ (∀ h' m, look M0 h' = some m → h' ≠ h ∧ Mo.ok 9 h m = true) ∧
    ∀ j q, ps[j]? = some q → j ≠ i → q.ds = true → (S.ok 9 h q.s = true ∧ ∀ h' m', q.mo = some (h', m') → h' ≠ h ∧ Mo.ok 9 h m' = true) := by
   intro h he
   obtain ⟨⟨h1, m1⟩, hmo, rfl⟩ := Option.map_eq_some_iff.1 he
   unfold handOk at hh
   have := List.all_eq_true.1 hh p (List.mem_of_getElem? hp)
   simp only [hmo, Bool.and_eq_true, List.all_eq_true] at this
   obtain ⟨⟨q1, q2⟩, q3⟩ := this
   refine ⟨fun n s hs => q1 (n, s) (look_mem hs), fun h' m hm => ?_, fun j q hq hne hqs => ?_⟩
   ·have := q2 (h', m) (look_mem hm)
    simp only [Bool.not_eq_true'] at this
    exact ⟨fun he => by rw [he] at this; simp at this, this.2⟩
   ·have := q3 q (List.mem_of_getElem? hq)
    simp only [Bool.or_eq_true, Bool.and_eq_true] at this
    rcases this with ⟨h, _⟩ | ⟨⟨h, h2⟩, _⟩
    ·exact absurd (Nat.eq_of_beq_eq_true h) (hdist j q hq hqs hne)
    ·refine ⟨h, fun h' m' hmo' => ?_⟩
     rw [hmo'] at h2
     simp only [Bool.and_eq_true, Bool.not_eq_true'] at h2
     exact ⟨fun he => by rw [he] at h2; simp at h2, h2.2⟩
  have hokS : ∀ h, p.mo.map (·.1) = some h → ∀ (j : Nat) (q : PO) (h' : Nat) (m m' : Mo), ps[j]? = some q → q.st = some (h', m, m') → h' ≠ h ∧ Mo.ok 9 h m = true ∧ Mo.ok 9 h m' = true := by
   intro h he j q h' m m' hq hqs
   obtain ⟨⟨h1, m1⟩, hmo, rfl⟩ := Option.map_eq_some_iff.1 he
   unfold handOk at hh
   have := List.all_eq_true.1 hh p (List.mem_of_getElem? hp)
   simp only [hmo, Bool.and_eq_true, List.all_eq_true] at this
   have := this.2 q (List.mem_of_getElem? hq)
   simp only [Bool.or_eq_true, Bool.and_eq_true] at this
   rcases this with ⟨_, h⟩ | ⟨_, h⟩
   ·rw [hqs] at h; cases h
   ·rw [hqs] at h
    simp only [Bool.and_eq_true, Bool.not_eq_true'] at h
    exact ⟨fun he => by rw [he] at h; simp at h, h.1.2, h.2⟩
  have n9 : p.mo.map (·.1) = none ∨ 0 < 9 := .inr (by omega)
  refine ⟨hst.df, by simp [Act.put, hst.sz], hst.bl.trans (hb.mono hsz), fun b hb' => (hk'.lab b (by omega)).trans (hst.lab b hb'), fun n s hs hne => ?_, fun j q hq hqs hj => ?_, fun h m hm' => ?_, fun j q h m hq hj hqs hmo => ?_, fun j q h m m' hq hqs => ?_⟩
  ·obtain ⟨y, hy, hr'⟩ := hst.old n s hs (fun j q hj hqs he => by
    have h := hne j q hj hqs he
    rw [getD_set hiL] at h
    split at h
    ·cases h
    ·exact h)
   refine ⟨y, ?_, hr'.mono hk' 9 (fun h he => (hokH h he).1 n s hs) n9⟩
   simp only [Act.put]; rw [Array.getElem?_setIfInBounds_ne (fun he => by have h := hne i p hp hpd he; rw [getD_set hiL, if_pos rfl] at h; cases h)]; exact hy
  ·rw [getD_set hiL] at hj
   by_cases hji : j = i
   ·subst hji
    rw [hp] at hq; cases hq
    exact ⟨x, by simp [Act.put, hst.sz, hpN], hr⟩
   ·rw [if_neg hji] at hj
    obtain ⟨y, hy, hr'⟩ := hst.new j q hq hqs hj
    refine ⟨y, ?_, hr'.mono hk' 9 (fun h he => ((hokH h he).2.2 j q hq hji hqs).1) n9⟩
    simp only [Act.put]; rw [Array.getElem?_setIfInBounds_ne (fun he => hdist j q hq hqs hji he.symm)]; exact hy
  ·obtain ⟨hm1, _⟩ := look_dropM hm'
   exact (hst.mold h m hm').mono hk' (by simp) (fun he => ((hokH h he).2.1 h m hm1).1 rfl) 9 (fun h' he => ((hokH h' he).2.1 h m hm1).2) n9
  ·rw [getD_set hiL] at hj
   by_cases hji : j = i
   ·subst hji
    rw [hp] at hq; cases hq
    exact hm h m hmo
   ·rw [if_neg hji] at hj
    have hqd := hds j q (fun e => by subst e; rw [(gd q hq).2.1] at hmo; cases hmo) hq hqs
    exact (hst.mnew j q h m hq hj hqs hmo).mono hk' (by simp) (fun he => (((hokH h he).2.2 j q hq hji hqd).2 h m hmo).1 rfl) 9 (fun h' he => (((hokH h' he).2.2 j q hq hji hqd).2 h m hmo).2) n9
  ·have hji : j ≠ i := fun e => by subst e; rw [hp] at hq; cases hq; rw [hps] at hqs; cases hqs
   rw [getD_set hiL, if_neg hji]
   have h0 := hst.sto j q h m m' hq hqs
   refine h0.mono hk' (by simp) (fun he => (hokS h he j q h m m' hq hqs).1 rfl) 9 (fun h' he => ?_) n9
   have := hokS h' he j q h m m' hq hqs
   split
   ·exact this.2.2
   ·exact this.2.1
 unfold wpOp
 simp only [ho]
 rcases hstep with ⟨hm, hsem⟩ | ⟨hm, hu, hn⟩
 ·rw [if_pos (hmet true hm)]
  refine .inl (Oper.wp_false (hsem O H a w hst.bl.size hslots hst.mold K fun O' H' w' x h1 h2 h3 h4 => ?_) Q)
  rw [hd]
  exact hK O' H' _ _ (keepIt O' H' w' x h1 h2 h3 h4)
 ·rw [if_neg (by rw [hmet false hm]; simp)]
  rw [hd]
  refine hK O H _ _ (keepIt O H w undef ?_ (.refl _ _) (by rw [hu]; exact .d _ _ (.v _)) (fun h m he => by rw [hn] at he; cases he))
  rw [hn]; exact .refl _ _ _ _ _
theorem PSt.step {k : Nat} {ps : List PO} (hpw : PW P w0.heap.size ops hs M0 (ops.toList.take k) ps e0) (hk : k ≤ ops.size) (hok : ParHd ops k) (hh : handOk e0 M0 ps = true) (hso : stOk hs ps = true) {L : Array Bool} (hL : L.size = ops.size)
  (hcl : ∀ i, L.getD i false = true → ∀ o, ops[i]? = some o → ∀ e, e ∈ o.after → Region.binds .any e = true → L.getD e.on false = true)
  {O : Nat → Nat} {H : Nat → Value} {a : Act} {w : World} (hst : PSt N w0 O0 e0 hs M0 ps L O H a w) {i : Nat} (hik : i < k) {o : Oper} (ho : ops[i]? = some o)
  (hready : ∀ e, e ∈ o.after → Region.binds .any e = true → L.getD e.on false = true) (hnl : L.getD i false = false) (hN : ∀ p, p ∈ ps → p.ds = true → p.d < N)
  (K : Act → World → Prop) (hK : ∀ O' H' a' w', PSt N w0 O0 e0 hs M0 ps (L.setIfInBounds i true) O' H' a' w' → K a' w') : wpOp P ops Q i K a w := by
 obtain ⟨g1, g2⟩ := hpw.get
 have hlen : ps.length = k := by rw [← g1]; simp; omega
 exact PSt.stepK (kk := k) hlen (fun i o p _ => g2 i o p) (fun p hp => by rw [List.getElem?_eq_none (by omega)] at hp; cases hp) hk hok.skip hh hso hL hcl hst hik (by omega) ho hready hnl hN K hK
end
end Go.Eng
end

section
namespace Go.Eng
section
variable {P : Program} {N : Nat} {w0 : World} {O0 : Nat → Nat} {ops : Array Oper} {Q : Post} {e0 : Env} {M0 : Mem} {hs : List Nat}
theorem OpSt.storeb {B : Nat} {o : Oper} {e : Env} {s : S} {t : TypeId} {x y : Operand} {h k : Nat} {cs ss : List S} {g : Bool} (ho : o.op = .store t x y) (hx : opS e x = some (.r h k)) (hy : opS e y = some s) (hs : s.cells = some ss)
  (ht : vsz P t = some (g, ss.length)) (hk : k + ss.length ≤ cs.length) : OpSt P B o e h (.box cs) (.box (cs.take k ++ ss ++ cs.drop (k + ss.length))) .u := by
 intro O H a w hBw hsl hm K hK
 have hr := hsl x (by simp [ho, Op.operands]) _ hx
 have hv := hsl y (by simp [ho, Op.operands]) _ hy
 obtain ⟨b, xs, T, hH, hB, hO, hb, hsz, hc⟩ := hm
 obtain ⟨v1, v2⟩ := hv.cells hs
 generalize hxa : a.eval x = xa at hr
 cases hr with
 | r h b' k hH' =>
  rw [hH] at hH'
  simp only [Value.pointer.injEq, Option.some.injEq, Addr.mk.injEq, and_true] at hH'
  subst hH'
  have h1 : ∀ z, z ∈ (a.eval y).cells.toList → z.oneCell' = true := by
   intro z hz
   obtain ⟨i, hi⟩ := List.getElem?_of_mem hz
   have hlt : i < ss.length := by rw [← v1]; have := (List.getElem?_eq_some_iff.1 hi).1; simpa using this
   obtain ⟨z', hz', _, ho'⟩ := v2 i _ (List.getElem?_eq_getElem hlt)
   have : z = z' := by simpa [hz'] using hi.symm
   rw [this]; exact ho'
  have hrun := run_storeVar ht (off := k) hb v1 (by rw [hsz]; omega) h1
  unfold Oper.wp
  simp only [execOp, ho, hxa, Instr.storeAt, Instr.sureAddr, Sem.run_bind, Sem.run_pure, Result.andThen_ok, hrun, Oper.upon_skip]
  refine hK _ _ (Keep.setRow hO) ((Below.setRow hB).mono (Nat.le_refl _)) ?_ (.u _)
  have hk' := Keep.setRow (O := O) (H := H) (w := w) (cs := (xs.toList.take k ++ (a.eval y).cells.toList ++ xs.toList.drop (k + ss.length)).toArray) hO
  refine ⟨b, _, T, hH, hB, hO, setRow_heap w b xs _ T _ hb, by simp; omega, fun i s' hi => ?_⟩
  by_cases h1 : i < k
  ·rw [List.append_assoc, List.getElem?_append_left (by simp; omega), List.getElem?_take_of_lt h1] at hi
   obtain ⟨z, hz, hr, ho'⟩ := hc i s' hi
   refine ⟨z, ?_, hr.mono0 hk', ho'⟩
   simp only [List.getElem?_toArray]
   rw [List.append_assoc, List.getElem?_append_left (by simp; omega), List.getElem?_take_of_lt h1]
   simpa using hz
  ·by_cases h2 : i < k + ss.length
   ·rw [List.append_assoc, List.getElem?_append_right (by simp; omega), List.getElem?_append_left (by simp; omega)] at hi
    obtain ⟨z, hz, hr, ho'⟩ := v2 _ s' hi
    refine ⟨z, ?_, hr.mono0 hk', ho'⟩
    simp only [List.getElem?_toArray]
    rw [List.append_assoc, List.getElem?_append_right (by simp; omega), List.getElem?_append_left (by simp; omega)]
    simp only [List.length_take, Array.length_toList] at hz ⊢
    rw [Nat.min_eq_left (by omega)] at hz ⊢
    simpa using hz
   ·rw [List.getElem?_append_right (by simp; omega), List.getElem?_drop] at hi
    have e1 : k + ss.length + (i - (List.take k cs ++ ss).length) = i := by simp; omega
    rw [e1] at hi
    obtain ⟨z, hz, hr, ho'⟩ := hc i s' hi
    refine ⟨z, ?_, hr.mono0 hk', ho'⟩
    simp only [List.getElem?_toArray]
    rw [List.getElem?_append_right (by simp; omega), List.getElem?_drop]
    have e2 : k + ss.length + (i - (List.take k xs.toList ++ (a.eval y).cells.toList).length) = i := by simp; omega
    rw [e2]
    simpa using hz
theorem par_any {k : Nat} {ps : List PO} (hpw : PW P w0.heap.size ops hs M0 (ops.toList.take k) ps e0) (hk : k ≤ ops.size) (hok : parOk ops k = true) (hh : handOk e0 M0 ps = true) (hso : stOk hs ps = true) (hN : ∀ p, p ∈ ps → p.ds = true → p.d < N)
  (ht : TrOps P N w0 O0 ops Q (finE e0 ps) (finM M0 ps) (ops.toList.drop k)) :
  ∀ (fuel : Nat) (L : Array Bool) (a : Act) (w : World), L.size = ops.size → (∀ i, i < ops.size → L.getD i false = false → fuel ≠ 0) → ((List.range ops.size).filter fun i => !L.getD i false).length ≤ fuel →
   (∀ i, L.getD i false = true → ∀ o, ops[i]? = some o → ∀ e, e ∈ o.after → Region.binds .any e = true → L.getD e.on false = true) →
   ((∃ O H, PSt N w0 O0 e0 hs M0 ps L O H a w ∧ ∀ i, k ≤ i → L.getD i false = false) ∨ (∃ i0, k ≤ i0 ∧ (∀ i, i < ops.size → (L.getD i false = true ↔ i < i0)) ∧ i0 ≤ ops.size ∧ wpList P ops Q (ops.toList.drop i0) a w)) →
   wpAny P .any ops Q fuel L a w := by
 have hops : ∀ i, i < ops.size → ∃ o, ops[i]? = some o := fun i hi => ⟨ops[i], Array.getElem?_eq_getElem hi⟩
 have hchk : ∀ i o, ops[i]? = some o → (∀ e, e ∈ o.after → Region.binds .any e = true → e.on < i) ∧ (k ≤ i → ∀ j, j < i → prec ops 9 i j = true) := by
  intro i o ho
  have hi : i < ops.size := (Array.getElem?_eq_some_iff.1 ho).1
  unfold parOk at hok
  simp only [List.all_eq_true, List.mem_range] at hok
  have := hok i hi
  simp only [ho, Bool.and_eq_true] at this
  obtain ⟨h1, h2⟩ := this
  refine ⟨fun e he hb => ?_, fun hki j hj => ?_⟩
  ·have := Array.all_eq_true'.1 h1 e he
   simp only [hb, Bool.not_true, Bool.false_or, decide_eq_true_eq] at this
   exact this
  ·rw [if_neg (by omega)] at h2
   exact List.all_eq_true.1 h2 j (List.mem_range.2 hj)
 have turn : ∀ (L : Array Bool) (a : Act) (w : World), L.size = ops.size → (∀ i, i < k → L.getD i false = true) → (∀ i, k ≤ i → L.getD i false = false) → (∃ O H, PSt N w0 O0 e0 hs M0 ps L O H a w) →
   (∀ i, i < ops.size → (L.getD i false = true ↔ i < k)) ∧ wpList P ops Q (ops.toList.drop k) a w := by
  rintro L a w hL h1 h2 ⟨O, H, hst⟩
  refine ⟨fun i hi => ⟨fun h => ?_, h1 i⟩, ht O H a w ⟨hst.df, hst.sz, hst.bl, hst.lab, fun n s hs => ?_, fun h m hm => ?_⟩⟩
  ·rcases Nat.lt_or_ge i k with h' | h'
   ·exact h'
   ·rw [h2 i h'] at h; cases h
  ·have hlen : ps.length = k := by have := hpw.get.1; rw [← this]; simp; omega
   rcases look_finE hs with ⟨i, p, hp, hps, rfl, rfl⟩ | ⟨h1', h2'⟩
   ·exact hst.new i p hp hps (h1 i (by rw [← hlen]; exact (List.getElem?_eq_some_iff.1 hp).1))
   ·exact hst.old n s h2' (fun j p hj hs he => absurd he (h1' p (List.mem_of_getElem? hj) hs))
  ·have hlen : ps.length = k := by have := hpw.get.1; rw [← this]; simp; omega
   rcases look_finM hm with ⟨i, p, hp, hps, hmo⟩ | ⟨i, p, m0, hp, hps⟩ | ⟨hns, hm⟩
   ·exact hst.mnew i p h m hp (h1 i (by rw [← hlen]; exact (List.getElem?_eq_some_iff.1 hp).1)) hps hmo
   ·have := hst.sto i p h m0 m hp hps
    rwa [if_pos (h1 i (by rw [← hlen]; exact (List.getElem?_eq_some_iff.1 hp).1))] at this
   ·refine hst.mold h m (look_dropM_of (fun hin => ?_) hm)
    unfold stOk at hso
    simp only [Bool.and_eq_true] at hso
    obtain ⟨p, hp, he⟩ := List.any_eq_true.1 (List.all_eq_true.1 hso.2 h hin)
    cases hps : p.st with
    | none => rw [hps] at he; cases he
    | some x =>
     obtain ⟨h', m0, m1⟩ := x
     rw [hps] at he
     exact hns p hp h' m0 m1 hps (Nat.eq_of_beq_eq_true he)
 have hrd : ∀ (L : Array Bool) (i : Nat), L.size = ops.size → i ∈ Region.ready .any ops L → i < ops.size ∧ L.getD i false = false ∧ ∀ o, ops[i]? = some o → ∀ e, e ∈ o.after → Region.binds .any e = true → L.getD e.on false = true := by
  intro L i hL hi
  unfold Region.ready at hi
  rw [List.mem_filter] at hi
  obtain ⟨h1, h2⟩ := hi
  rw [List.mem_range] at h1
  simp only [Bool.and_eq_true, Bool.not_eq_true'] at h2
  obtain ⟨h2, h3⟩ := h2
  refine ⟨h1, ?_, fun o ho e he hb => ?_⟩
  ·simpa [Array.getD_eq_getD_getElem?, Array.getElem?_eq_getElem (by omega : i < L.size)] using h2
  ·simp only [ho, Option.map_some, Option.getD_some] at h3
   have := Array.all_eq_true'.1 h3 e he
   simpa [hb] using this
 have hnone : ∀ (L : Array Bool), L.size = ops.size → Region.ready .any ops L = [] → ∀ i, i < ops.size → L.getD i false = true := by
  intro L hL hr i
  induction i using Nat.strongRecOn with
  | _ i ih =>
   intro hi
   cases hl : L.getD i false with
   | true => rfl
   | false =>
    exfalso
    obtain ⟨o, ho⟩ := hops i hi
    have : i ∈ Region.ready .any ops L := by
     unfold Region.ready
     rw [List.mem_filter]
     refine ⟨List.mem_range.2 hi, ?_⟩
     simp only [Bool.and_eq_true, Bool.not_eq_true']
     refine ⟨by simpa [Array.getD_eq_getD_getElem?, Array.getElem?_eq_getElem (by omega : i < L.size)] using hl, ?_⟩
     simp only [ho, Option.map_some, Option.getD_some, Array.all_eq_true', Bool.or_eq_true, Bool.not_eq_true']
     intro e he
     by_cases hb : Region.binds .any e = true
     ·exact .inr (ih e.on ((hchk i o ho).1 e he hb) (by have := (hchk i o ho).1 e he hb; omega))
     ·exact .inl (by simpa using hb)
    rw [hr] at this; cases this
 have hcl' : ∀ (L : Array Bool) (i : Nat), L.size = ops.size → i < ops.size → (∀ i, L.getD i false = true → ∀ o, ops[i]? = some o → ∀ e, e ∈ o.after → Region.binds .any e = true → L.getD e.on false = true) → (∀ o, ops[i]? = some o → ∀ e, e ∈ o.after → Region.binds .any e = true → L.getD e.on false = true) →
   ∀ j, (L.setIfInBounds i true).getD j false = true → ∀ o, ops[j]? = some o → ∀ e, e ∈ o.after → Region.binds .any e = true → (L.setIfInBounds i true).getD e.on false = true := by
  intro L i hL hi hcl hr j hj o ho e he hb
  rw [getD_set (by omega)] at hj ⊢
  split
  ·rfl
  ·by_cases hji : j = i
   ·subst hji; exact hr o ho e he hb
   ·rw [if_neg hji] at hj; exact hcl j hj o ho e he hb
 have hcount : ∀ (L : Array Bool) (i n : Nat), L.size = ops.size → i < ops.size → L.getD i false = false → ((List.range ops.size).filter fun i => !L.getD i false).length ≤ n + 1 → ((List.range ops.size).filter fun j => !(L.setIfInBounds i true).getD j false).length ≤ n := by
  intro L i n hL hi hl hc
  have : ((List.range ops.size).filter fun j => !(L.setIfInBounds i true).getD j false) = ((List.range ops.size).filter fun j => !L.getD j false).filter (fun j => j != i) := by
   rw [List.filter_filter]
   apply List.filter_congr
   intro j _
   rw [getD_set (by omega)]
   by_cases h : j = i <;> simp [h]
  rw [this]
  have hlt : (((List.range ops.size).filter fun j => !L.getD j false).filter (fun j => j != i)).length < ((List.range ops.size).filter fun j => !L.getD j false).length := by
   rw [List.length_filter_lt_length_iff_exists]
   exact ⟨i, List.mem_filter.2 ⟨List.mem_range.2 hi, by rw [hl]; rfl⟩, by simp⟩
  omega
 intro fuel
 induction fuel with
 | zero =>
  intro L a w hL hf hc hcl hJ
  have hall : ∀ i, i < ops.size → L.getD i false = true := fun i hi => by
   cases hl : L.getD i false with
   | true => rfl
   | false => exact absurd rfl (hf i hi hl)
  refine ⟨?_, ?_⟩
  ·rw [List.eq_nil_iff_forall_not_mem]
   intro i hi
   obtain ⟨h1, h2, _⟩ := hrd L i hL hi
   rw [hall i h1] at h2; cases h2
  ·rcases hJ with ⟨O, H, hst, htail⟩ | ⟨i0, h1, h2, h3, h4⟩
   ·have hkn : k = ops.size := by
     rcases Nat.lt_or_ge k ops.size with h | h
     ·have := htail k (Nat.le_refl _); rw [hall k h] at this; cases this
     ·omega
    have := (turn L a w hL (fun i hi => hall i (by omega)) htail ⟨O, H, hst⟩).2
    rw [List.drop_eq_nil_of_le (by simp; omega)] at this
    exact this
   ·have : i0 = ops.size := by
     rcases Nat.lt_or_ge i0 ops.size with h | h
     ·have := (h2 i0 h).1 (hall i0 h); omega
     ·omega
    rw [List.drop_eq_nil_of_le (by simp; omega)] at h4
    exact h4
 | succ fuel ih =>
  intro L a w hL hf hc hcl hJ
  have next : ∀ (i : Nat) (a' : Act) (w' : World), i < ops.size → L.getD i false = false → (∀ o, ops[i]? = some o → ∀ e, e ∈ o.after → Region.binds .any e = true → L.getD e.on false = true) →
    ((∃ O H, PSt N w0 O0 e0 hs M0 ps (L.setIfInBounds i true) O H a' w' ∧ ∀ j, k ≤ j → (L.setIfInBounds i true).getD j false = false) ∨ (∃ i0, k ≤ i0 ∧ (∀ j, j < ops.size → ((L.setIfInBounds i true).getD j false = true ↔ j < i0)) ∧ i0 ≤ ops.size ∧ wpList P ops Q (ops.toList.drop i0) a' w')) →
    wpAny P .any ops Q fuel (L.setIfInBounds i true) a' w' := by
   intro i a' w' hi hl hr hJ'
   have hcc := hcount L i fuel hL hi hl hc
   refine ih _ a' w' (by simpa using hL) (fun j hj hlj h0 => ?_) hcc (hcl' L i hL hi hcl hr) hJ'
   subst h0
   have : ((List.range ops.size).filter fun j => !(L.setIfInBounds i true).getD j false) = [] := List.eq_nil_of_length_eq_zero (by omega)
   have hm : j ∈ ((List.range ops.size).filter fun j => !(L.setIfInBounds i true).getD j false) := List.mem_filter.2 ⟨List.mem_range.2 hj, by rw [hlj]; rfl⟩
   rw [this] at hm; cases hm
  have tail : ∀ (i0 : Nat), k ≤ i0 → (∀ i, i < ops.size → (L.getD i false = true ↔ i < i0)) → i0 ≤ ops.size → wpList P ops Q (ops.toList.drop i0) a w → ∀ i, i ∈ Region.ready .any ops L → wpOp P ops Q i (wpAny P .any ops Q fuel (L.setIfInBounds i true)) a w := by
   intro i0 h1 h2 h3 h4 i hi
   obtain ⟨hi1, hi2, hi3⟩ := hrd L i hL hi
   obtain ⟨o, ho⟩ := hops i hi1
   have hge : i0 ≤ i := by
    rcases Nat.lt_or_ge i i0 with h | h
    ·have := (h2 i hi1).2 h; rw [hi2] at this; cases this
    ·exact h
   have hall : ∀ j, j < i → L.getD j false = true := fun j hj => prec_closed hcl 9 i j ((hchk i o ho).2 (by omega) j hj) hi3
   have hii : i = i0 := by
    rcases Nat.lt_or_ge i0 i with h | h
    ·have := (h2 i0 (by omega)).1 (hall i0 h); omega
    ·omega
   subst hii
   have hd : ops.toList.drop i = o :: ops.toList.drop (i + 1) := by
    rw [List.drop_eq_getElem_cons (by simpa using hi1)]
    congr 1
    have := (Array.getElem?_eq_some_iff.1 ho).2
    simpa using this
   rw [hd] at h4
   have hK : ∀ a' w', wpList P ops Q (ops.toList.drop (i + 1)) a' w' → wpAny P .any ops Q fuel (L.setIfInBounds i true) a' w' := fun a' w' hw' =>
    next i a' w' hi1 hi2 hi3 (.inr ⟨i + 1, by omega, fun j hj => by
     rw [getD_set (by omega)]
     by_cases hji : j = i
     ·simp [hji]
     ·rw [if_neg hji, h2 j hj]; omega, by omega, hw'⟩)
   unfold wpOp
   simp only [ho]
   simp only [wpList] at h4
   split
   ·rename_i hw
    rw [if_pos hw] at h4
    exact h4.imp (Oper.wp_mono hK) id
   ·rename_i hw
    rw [if_neg hw] at h4
    exact hK _ _ h4
  refine ⟨fun hr => ?_, fun i hi => ?_⟩
  ·have hall := hnone L hL hr
   rcases hJ with ⟨O, H, hst, htail⟩ | ⟨i0, h1, h2, h3, h4⟩
   ·have hkn : k = ops.size := by
     rcases Nat.lt_or_ge k ops.size with h | h
     ·have := htail k (Nat.le_refl _); rw [hall k h] at this; cases this
     ·omega
    have := (turn L a w hL (fun i hi => hall i (by omega)) htail ⟨O, H, hst⟩).2
    rw [List.drop_eq_nil_of_le (by simp; omega)] at this
    exact this
   ·have : i0 = ops.size := by
     rcases Nat.lt_or_ge i0 ops.size with h | h
     ·have := (h2 i0 h).1 (hall i0 h); omega
     ·omega
    rw [List.drop_eq_nil_of_le (by simp; omega)] at h4
    exact h4
  ·obtain ⟨hi1, hi2, hi3⟩ := hrd L i hL hi
   obtain ⟨o, ho⟩ := hops i hi1
   rcases hJ with ⟨O, H, hst, htail⟩ | ⟨i0, h1, h2, h3, h4⟩
   ·rcases Nat.lt_or_ge i k with hik | hik
    ·refine PSt.step hpw hk (parOk_hd hok) hh hso hL hcl hst hik ho (hi3 o ho) hi2 hN _ fun O' H' a' w' hst' => ?_
     refine next i a' w' hi1 hi2 hi3 (.inl ⟨O', H', hst', fun j hj => ?_⟩)
     rw [getD_set (by omega), if_neg (by omega)]
     exact htail j hj
    ·have hall : ∀ j, j < i → L.getD j false = true := fun j hj => prec_closed hcl 9 i j ((hchk i o ho).2 hik j hj) hi3
     obtain ⟨t1, t2⟩ := turn L a w hL (fun j hj => hall j (by omega)) htail ⟨O, H, hst⟩
     exact tail k (Nat.le_refl _) t1 hk t2 i hi
   ·exact tail i0 h1 h2 h3 h4 i hi
theorem Tr.par {id k : Nat} {ps : List PO} (hm : P.follows .mixedOrders = true) (hpw : PW P w0.heap.size ops hs M0 (ops.toList.take k) ps e0) (hk : k ≤ ops.size) (hok : parOk ops k = true) (hh : handOk e0 M0 ps = true) (hso : stOk hs ps = true) (hN : ps.all (fun p => !p.ds || decide (p.d < N)) = true)
  (ht : TrOps P N w0 O0 ops Q (finE e0 ps) (finM M0 ps) (ops.toList.drop k)) : Tr P N w0 O0 e0 M0 (.region id ops true) Q := by
 intro O H a w hst
 have memD : ∀ h m, look M0 h = some m → MHold O H w0.heap.size w.drew h m := fun h m hm => MHold.mono (w := w) (w' := w.drew) (hb := none) (hh := none) (O := O) (O' := O) (H := H) (H' := H) ⟨fun _ _ => rfl, fun _ _ _ => rfl, fun _ _ => rfl⟩ (hst.mem h m hm) (by simp) (by simp) 0 (fun h he => by cases he) (.inl rfl)
 refine ww_region_any hm (par_any hpw hk hok hh hso (fun p hp hps => by have := List.all_eq_true.1 hN p hp; rw [hps] at this; simpa using this) ht ops.size _ a _ (by simp) (fun i hi _ => by omega) (Nat.le_trans (List.length_filter_le _ _) (by simp)) (fun i hi => ?_) (.inl ⟨O, H, ?_, fun i _ => ?_⟩))
 ·simp only [Array.getD_eq_getD_getElem?, Array.getElem?_replicate] at hi
  split at hi <;> simp at hi
 ·refine ⟨hst.df, hst.sz, hst.bl.drew, hst.lab, fun n s hs _ => (let ⟨x, hx, hr⟩ := hst.slots n s hs; ⟨x, hx, RepS.keeps (w := w) (w' := w.drew) (O := O) (fun b _ h => ⟨h, rfl⟩) hr⟩), fun i p _ _ hi => ?_, fun h m hm => memD h m (look_dropM hm).1, fun i p h m _ hi => ?_, fun i p h m m' hp hps => ?_⟩
  ·simp only [Array.getD_eq_getD_getElem?, Array.getElem?_replicate] at hi
   split at hi <;> simp at hi
  ·simp only [Array.getD_eq_getD_getElem?, Array.getElem?_replicate] at hi
   split at hi <;> simp at hi
  ·have hF : (Array.replicate ops.size false).getD i false = false := by
    simp only [Array.getD_eq_getD_getElem?, Array.getElem?_replicate]
    split <;> simp
   rw [if_neg (by rw [hF]; simp)]
   obtain ⟨o, ho⟩ : ∃ o, (ops.toList.take k)[i]? = some o := ⟨(ops.toList.take k)[i]'(by rw [hpw.get.1]; exact (List.getElem?_eq_some_iff.1 hp).1), List.getElem?_eq_getElem _⟩
   have hs1 := hpw.get.2 i o p ho hp
   simp only [PStep, hps] at hs1
   exact memD h m hs1.2.2.2.1
 ·simp only [Array.getD_eq_getD_getElem?, Array.getElem?_replicate]
  split <;> simp
end
end Go.Eng
end

section
namespace Go.Eng
section
variable {P : Program} {N : Nat} {w0 : World} {O0 : Nat → Nat} {ops : Array Oper} {Q : Post} {e e0 : Env} {M M0 : Mem} {hs : List Nat} {rest : List Oper} {o : Oper} {s : S}
theorem TrOps.split {n : Nat} {b : Bool} (hn : look e n = some (.d (.v (.bool b)))) (ht : b = true → TrOps P N w0 O0 ops Q e M rest) (hf : b = false → TrOps P N w0 O0 ops Q e M rest) : TrOps P N w0 O0 ops Q e M rest := by
 cases b
 ·exact hf rfl
 ·exact ht rfl
theorem Tr.condT {c : Operand} {x y : Code} {b : Bool} (hc : opS e c = some (.d (.v (.bool b)))) (hb : b = true) (h : Tr P N w0 O0 e M x Q) : Tr P N w0 O0 e M (.cond c x y) Q :=
 Tr.cond hc (fun _ => h) (fun h' => by rw [hb] at h'; cases h')
theorem Tr.condF {c : Operand} {x y : Code} {b : Bool} (hc : opS e c = some (.d (.v (.bool b)))) (hb : b = false) (h : Tr P N w0 O0 e M y Q) : Tr P N w0 O0 e M (.cond c x y) Q :=
 Tr.cond hc (fun h' => by rw [hb] at h'; cases h') (fun _ => h)
theorem RepD.len {O : Nat → Nat} {w : World} {x : Value} {k : Nat} {α : Type} {l : List α} {f : α → List D} (h : RepD O w x (.s k (l.map f))) : (l.length : Int) ≤ 9223372036854775807 := by
 obtain ⟨_, _, _, h1, h2⟩ := h.slice
 simp [maxLen] at h1 h2
 omega
theorem Tr.lenLe {c : Code} {n k : Nat} {α : Type} {l : List α} {f : α → List D} (hn : look e n = some (.d (.s k (l.map f)))) (h : (l.length : Int) ≤ 9223372036854775807 → Tr P N w0 O0 e M c Q) : Tr P N w0 O0 e M c Q := by
 intro O H a w hst
 obtain ⟨x, _, hr⟩ := hst.slots _ _ hn
 cases hr with
 | d _ _ hd => exact h hd.len O H a w hst
theorem Tr.lenG {c : Code} {n i k : Nat} {cs : List S} {α : Type} {l : List α} {f : α → List D} (hn : look e n = some (.g cs)) (hi : cs[i]? = some (.d (.s k (l.map f)))) (h : (l.length : Int) ≤ 9223372036854775807 → Tr P N w0 O0 e M c Q) : Tr P N w0 O0 e M c Q := by
 intro O H a w hst
 obtain ⟨x, _, hr⟩ := hst.slots _ _ hn
 cases hr with
 | g xs ss hl _ hg =>
  have hlt : i < xs.length := by rw [hl]; exact (List.getElem?_eq_some_iff.1 hi).1
  have := hg i _ _ (List.getElem?_eq_getElem hlt) hi
  generalize xs[i] = z at this
  cases this with
  | d _ _ hd => exact h hd.len O H a w hst
theorem TrOps.gT {j d' : Nat} {b c : Bool} {oj : Oper} (hg : o.guard = some (j, b)) (hj : ops[j]? = some oj) (hdj : oj.dst = some d') (hb : look e d' = some (.d (.v (.bool c)))) (hc : c = b)
  (h : TrOps P N w0 O0 ops Q e M ({ o with guard := none } :: rest)) : TrOps P N w0 O0 ops Q e M (o :: rest) := by
 subst hc; exact TrOps.guardT hg hj hdj hb h
theorem TrOps.gF {j d d' : Nat} {b c : Bool} {oj : Oper} (hg : o.guard = some (j, b)) (hj : ops[j]? = some oj) (hdj : oj.dst = some d') (hb : look e d' = some (.d (.v (.bool c)))) (hc : c = !b) (hd : o.dst = some d) (hdN : d < N)
  (h : TrOps P N w0 O0 ops Q ((d, .d (.v undef)) :: e) M rest) : TrOps P N w0 O0 ops Q e M (o :: rest) :=
 TrOps.guardF hg hj hdj hb (by subst hc; cases b <;> rfl) hd hdN h
theorem TrOps.gU {j d d' : Nat} {b : Bool} {oj : Oper} (hg : o.guard = some (j, b)) (hj : ops[j]? = some oj) (hdj : oj.dst = some d') (hb : look e d' = some (.d (.v undef))) (hd : o.dst = some d) (hdN : d < N)
  (h : TrOps P N w0 O0 ops Q ((d, .d (.v undef)) :: e) M rest) : TrOps P N w0 O0 ops Q e M (o :: rest) :=
 TrOps.guardF hg hj hdj hb rfl hd hdN h
theorem finE_snoc {e : Env} {ps : List PO} {p : PO} : finE e (ps ++ [p]) = p.env (finE e ps) := by simp [finE]
theorem PW.snoc {B : Nat} {p : PO} : ∀ {os : List Oper} {ps : List PO} {e : Env}, PW P B ops hs M0 os ps e → PStep P B ops hs M0 (finE e ps) o p → PW P B ops hs M0 (os ++ [o]) (ps ++ [p]) e
 | [], [], e, _, h => ⟨h, trivial⟩
 | [], _ :: _, _, h, _ => h.elim
 | _ :: _, [], _, h, _ => h.elim
 | o' :: os, p' :: ps, e, ⟨h1, h2⟩, h => ⟨h1, PW.snoc h2 (by simpa [finE] using h)⟩
def PC (P : Program) (N : Nat) (w0 : World) (O0 : Nat → Nat) (id : Nat) (ops : Array Oper) (Q : Post) (hs : List Nat) (e0 : Env) (M0 : Mem) (ps : List PO) (e : Env) (rest : List Oper) : Prop :=
 ∀ pre : List Oper, ops.toList = pre ++ rest → PW P w0.heap.size ops hs M0 pre ps e0 → e = finE e0 ps → Tr P N w0 O0 e0 M0 (.region id ops true) Q
variable {id : Nat} {ps : List PO}
theorem PC.start {l : List Oper} (hs : List Nat) (h : PC P N w0 O0 id l.toArray Q hs e M [] e l) : Tr P N w0 O0 e M (.region id l.toArray true) Q := h [] (by simp) trivial rfl
theorem PC.sem (hsem : OpSem P w0.heap.size o e (dropM hs M0) s none) {d : Nat} (hg : o.guard = none) (hd : o.dst = some d)
  (h : PC P N w0 O0 id ops Q hs e0 M0 (ps ++ [⟨d, s, none, none, true⟩]) ((d, s) :: e) rest) : PC P N w0 O0 id ops Q hs e0 M0 ps e (o :: rest) := by
 intro pre hops hpw he
 subst he
 exact h (pre ++ [o]) (by simp [hops]) (hpw.snoc ⟨rfl, hd, .inl ⟨by simp [Met, hg], hsem⟩⟩) (by rw [finE_snoc]; rfl)
theorem PC.semM {h0 : Nat} {m0 : Mo} (hsem : OpSem P w0.heap.size o e (dropM hs M0) s (some (h0, m0))) {d : Nat} (hg : o.guard = none) (hd : o.dst = some d)
  (h : PC P N w0 O0 id ops Q hs e0 M0 (ps ++ [⟨d, s, some (h0, m0), none, true⟩]) ((d, s) :: e) rest) : PC P N w0 O0 id ops Q hs e0 M0 ps e (o :: rest) := by
 intro pre hops hpw he
 subst he
 exact h (pre ++ [o]) (by simp [hops]) (hpw.snoc ⟨rfl, hd, .inl ⟨by simp [Met, hg], hsem⟩⟩) (by rw [finE_snoc]; rfl)
theorem PC.gT {j d d' : Nat} {b c : Bool} {oj : Oper} (hsem : OpSem P w0.heap.size o e (dropM hs M0) s none) (hg : o.guard = some (j, b)) (hj : ops[j]? = some oj) (hdj : oj.dst = some d') (hb : look e d' = some (.d (.v (.bool c)))) (hc : c = b) (hd : o.dst = some d)
  (h : PC P N w0 O0 id ops Q hs e0 M0 (ps ++ [⟨d, s, none, none, true⟩]) ((d, s) :: e) rest) : PC P N w0 O0 id ops Q hs e0 M0 ps e (o :: rest) := by
 intro pre hops hpw he
 subst he
 exact h (pre ++ [o]) (by simp [hops]) (hpw.snoc ⟨rfl, hd, .inl ⟨by simp only [Met, hg]; exact ⟨oj, d', _, hj, hdj, hb, by simp [isB, hc]⟩, hsem⟩⟩) (by rw [finE_snoc]; rfl)
theorem PC.guardF {j d d' : Nat} {b : Bool} {v : Value} {oj : Oper} (hg : o.guard = some (j, b)) (hj : ops[j]? = some oj) (hdj : oj.dst = some d') (hb : look e d' = some (.d (.v v))) (hv : isB b v = false) (hd : o.dst = some d)
  (h : PC P N w0 O0 id ops Q hs e0 M0 (ps ++ [⟨d, .d (.v undef), none, none, true⟩]) ((d, .d (.v undef)) :: e) rest) : PC P N w0 O0 id ops Q hs e0 M0 ps e (o :: rest) := by
 intro pre hops hpw he
 subst he
 exact h (pre ++ [o]) (by simp [hops]) (hpw.snoc ⟨rfl, hd, .inr ⟨by simp only [Met, hg]; exact ⟨oj, d', _, hj, hdj, hb, hv.symm⟩, rfl, rfl⟩⟩) (by rw [finE_snoc]; rfl)
theorem PC.gF {j d d' : Nat} {b c : Bool} {oj : Oper} (hg : o.guard = some (j, b)) (hj : ops[j]? = some oj) (hdj : oj.dst = some d') (hb : look e d' = some (.d (.v (.bool c)))) (hc : c = !b) (hd : o.dst = some d)
  (h : PC P N w0 O0 id ops Q hs e0 M0 (ps ++ [⟨d, .d (.v undef), none, none, true⟩]) ((d, .d (.v undef)) :: e) rest) : PC P N w0 O0 id ops Q hs e0 M0 ps e (o :: rest) :=
 PC.guardF hg hj hdj hb (by subst hc; cases b <;> rfl) hd h
theorem PC.gU {j d d' : Nat} {b : Bool} {oj : Oper} (hg : o.guard = some (j, b)) (hj : ops[j]? = some oj) (hdj : oj.dst = some d') (hb : look e d' = some (.d (.v undef))) (hd : o.dst = some d)
  (h : PC P N w0 O0 id ops Q hs e0 M0 (ps ++ [⟨d, .d (.v undef), none, none, true⟩]) ((d, .d (.v undef)) :: e) rest) : PC P N w0 O0 id ops Q hs e0 M0 ps e (o :: rest) :=
 PC.guardF hg hj hdj hb rfl hd h
theorem PC.split {n : Nat} {b : Bool} (hn : look e n = some (.d (.v (.bool b)))) (ht : b = true → PC P N w0 O0 id ops Q hs e0 M0 ps e rest) (hf : b = false → PC P N w0 O0 id ops Q hs e0 M0 ps e rest) : PC P N w0 O0 id ops Q hs e0 M0 ps e rest := by
 cases b
 ·exact hf rfl
 ·exact ht rfl
theorem PC.storeb {t : TypeId} {x y : Operand} {h k : Nat} {cs ss : List S} {g : Bool} (i : Nat) (ho : o.op = .store t x y) (hg : o.guard = none) (hd : o.dst = none) (hx : opS e x = some (.r h k)) (hM : look M0 h = some (.box cs)) (hy : opS e y = some s) (hs' : s.cells = some ss)
  (ht : vsz P t = some (g, ss.length)) (hk : k + ss.length ≤ cs.length)
  (hn : PC P N w0 O0 id ops Q hs e0 M0 (ps ++ [⟨i, .u, none, some (h, .box cs, .box (cs.take k ++ ss ++ cs.drop (k + ss.length))), false⟩]) e rest) : PC P N w0 O0 id ops Q hs e0 M0 ps e (o :: rest) := by
 intro pre hops hpw he
 subst he
 refine hn (pre ++ [o]) (by simp [hops]) (hpw.snoc ⟨hd, hg, rfl, hM, OpSt.storeb ho hx hy hs' ht hk⟩) (by rw [finE_snoc]; rfl)
theorem PC.done (hm : P.follows .mixedOrders = true) (hok : parOk ops ps.length = true) (hh : handOk e0 M0 ps = true) (hso : stOk hs ps = true) (hN : ps.all (fun p => !p.ds || decide (p.d < N)) = true)
  (ht : TrOps P N w0 O0 ops Q e (finM M0 ps) rest) : PC P N w0 O0 id ops Q hs e0 M0 ps e rest := by
 intro pre hops hpw he
 subst he
 have hlen : pre.length = ps.length := hpw.get.1
 have hk : ps.length ≤ ops.size := by
  have : ops.size = (pre ++ rest).length := by rw [← hops]; simp
  rw [this, ← hlen]; simp
 refine Tr.par (k := ps.length) (ps := ps) hm ?_ hk hok hh hso hN ?_
 ·rw [hops, ← hlen, List.take_left]; exact hpw
 ·rw [hops, ← hlen, List.drop_left]; exact ht
theorem PC.done0 (hm : P.follows .mixedOrders = true) (hok : parOk ops ps.length = true) (hh : handOk e0 M0 ps = true) (hso : stOk hs ps = true) (hN : ps.all (fun p => !p.ds || decide (p.d < N)) = true) (hM : finM M0 ps = M0)
  (ht : TrOps P N w0 O0 ops Q e M0 rest) : PC P N w0 O0 id ops Q hs e0 M0 ps e rest := PC.done hm hok hh hso hN (by rw [hM]; exact ht)
theorem PC.done1 (h : Nat) (m : Mo) (hm : P.follows .mixedOrders = true) (hok : parOk ops ps.length = true) (hh : handOk e0 M0 ps = true) (hso : stOk hs ps = true) (hN : ps.all (fun p => !p.ds || decide (p.d < N)) = true) (hM : finM M0 ps = (h, m) :: M0)
  (ht : TrOps P N w0 O0 ops Q e ((h, m) :: M0) rest) : PC P N w0 O0 id ops Q hs e0 M0 ps e rest := PC.done hm hok hh hso hN (by rw [hM]; exact ht)
end
end Go.Eng
namespace Go.Eng
def OwnVal (B : Nat) (w : World) (x : Value) (k T : Nat) (rows : List (List D)) : Prop :=
 (x = .slice none 0 0 ∧ rows = []) ∨ ∃ (b cap : Nat) (xs : Array Value), x = .slice (some ⟨b, 0, none⟩) rows.length cap ∧ B ≤ b ∧
  w.heap[b]? = some (.cells xs T (0, 0)) ∧ rows.length ≤ cap ∧ cap ≤ maxLen ∧ xs.size = cap * k ∧ (∀ r, r ∈ rows → r.length = k) ∧
  ∀ (i : Nat) (r : List D) (j : Nat) (d : D), rows[i]? = some r → r[j]? = some d → ∃ x, xs[i * k + j]? = some x ∧ d = .v x ∧ x.oneCell' = true
structure DoesO (P : Program) (f : Nat) (args : List S) (k T : Nat) (rows : List (List D)) : Prop where
 can : ∀ xs w, (callFunc f xs).run P w = .ok (.enter f xs) w
 run : ∀ (O : Nat → Nat) (w : World) (xs : List Value), xs.length = args.length → (∀ (i : Nat) (x : Value) (s : S), xs[i]? = some x → args[i]? = some s → RepS O zH w x s) →
  Calls P f xs.toArray w fun en w' => ∃ x, en = .returned x ∧ Below w.heap.size w w' ∧ OwnVal w.heap.size w' x k T rows
def RetO (w0 : World) (k T : Nat) (rows : List (List D)) : Ending → World → Prop :=
 fun en w' => ∃ x, en = .returned x ∧ Below w0.heap.size w0 w' ∧ OwnVal w0.heap.size w' x k T rows
section
variable {P : Program} {N : Nat} {w0 : World} {O0 : Nat → Nat} {ops : Array Oper} {Q : Post} {e : Env} {M : Mem} {rest : List Oper} {o : Oper} {s : S} {B : Nat}
theorem DoesO.of_body {f : Nat} {args : List S} {k T : Nat} {rows : List (List D)} {fn : Func} {c : Code} (hf : P.funcs[f]? = some fn) (hb : fn.body = some c) (hN : fn.ntmps = N) (hlen : args.length ≤ N)
  (can : ∀ xs w, (callFunc f xs).run P w = .ok (.enter f xs) w) (h : ∀ (w0 : World) (O0 : Nat → Nat), Tr P N w0 O0 (entry 0 args) [] c (bodyPost P fn (RetO w0 k T rows))) : DoesO P f args k T rows := by
 refine ⟨can, fun O w xs hl hx => calls_of_wp hf hb (ww_wp <| h w O O zH _ w ⟨rfl, ?_, .refl _ _, fun _ _ => rfl, fun n s hs => ?_, fun n s hs => by cases hs⟩)⟩
 ·simp; omega
 ·obtain ⟨_, hn⟩ := look_entry args 0 n s hs
  simp only [Nat.sub_zero] at hn
  have hlt : n < xs.length := by rw [hl]; exact (List.getElem?_eq_some_iff.1 hn).1
  refine ⟨xs[n], ?_, hx n _ s (List.getElem?_eq_getElem hlt) hn⟩
  rw [Array.getElem?_append_left (by simpa using hlt)]
  simp [hlt]
theorem retO_run {fn : Func} {t : Nat} {x : Value} {a : Act} {w : World} (hres : fn.results.toList = [.tmp t]) (hx : a.tmps[t]? = some x) : (results fn a.tmps).run P w = .ok x w := by
 have : (rv a.tmps (.tmp t)).run P w = .ok x w := by simp [rv, Array.getD_eq_getD_getElem?, hx]
 rw [results_rv, Array.mapM_eq_mapM_toList, hres]
 simp [this]
theorem At.retO {fn : Func} {t h k T : Nat} {rows rows' : List (List D)} (hres : fn.results.toList = [.tmp t]) (ho : look e t = some (.o h)) (hM : look M h = some (.own k T rows)) (hf : rows.all (fun r => r.all fun d => match d with | .v _ => true | _ => false) = true) (hr : rows = rows') :
  At N w0 O0 e M .ret (bodyPost P fn (RetO w0 k T rows')) := by
 subst hr
 intro O H a w hst
 obtain ⟨x, hx, hr⟩ := hst.slots _ _ ho
 refine ⟨hst.df, _, retO_run hres hx, _, rfl, hst.bl, ?_⟩
 cases hr with
 | o h h1 =>
  rcases hst.mem h _ hM with ⟨h0, rfl⟩ | ⟨b, cap, xs, hH, hB, hO, hb, hlc, hcm, hsz, hw, hc⟩
  ·exact .inl ⟨h0, rfl⟩
  ·refine .inr ⟨b, cap, xs, hH, hB, hb, hlc, hcm, hsz, hw, fun i r j d hi hj => ?_⟩
   obtain ⟨x, hx, hr, h1⟩ := hc i r j d hi hj
   have := List.all_eq_true.1 (List.all_eq_true.1 hf r (List.mem_of_getElem? hi)) d (List.mem_of_getElem? hj)
   cases hr with
   | v _ => exact ⟨x, hx, rfl, h1⟩
   | _ => simp at this
theorem At.retONil {fn : Func} {t k T : Nat} {rows : List (List D)} (hres : fn.results.toList = [.tmp t]) (ho : look e t = some (.d (.v (.slice none 0 0)))) (hr : rows = []) :
  At N w0 O0 e M .ret (bodyPost P fn (RetO w0 k T rows)) := by
 intro O H a w hst
 obtain ⟨x, hx, hr'⟩ := hst.slots _ _ ho
 refine ⟨hst.df, _, retO_run hres hx, _, rfl, hst.bl, .inl ⟨?_, hr⟩⟩
 cases hr' with
 | d _ _ q => cases q with
  | v _ => rfl
theorem OpSem.callO {g : Operand} {as_ : Array Operand} {ts : Array TypeId} {fn : Nat} {fs cs l args args' : List S} {k T : Nat} {rows : List (List D)} (h : Nat)
  (hspec : DoesO P fn args k T rows)
  (ho : o.op = .call { callee := .value g, args := as_, argTypes := ts }) (hg : opS e g = some (.f fn fs cs)) (ha : opsS e as_.toList = some l)
  (hv : (fs ++ l ++ cs).mapM (S.view M 9) = some args') (hle : Les args' args) : OpSem P B o e M (.o h) (some (h, .own k T rows)) := by
 intro O H a w hB hs hm K hK
 have hg' := hs g (by simp [ho, Op.operands, Call.operands]) _ hg
 generalize hgv : a.eval g = gv at hg'
 cases hg' with
 | f _ xs ys _ _ hl hl' hx hy =>
  obtain ⟨a1, a2⟩ := opsS_rep (O := O) (H := H) (w := w) (a := a) as_.toList l ha (fun x hx s hs' => hs x (by simp only [ho, Op.operands, Call.operands]; simpa using .inr (by simpa using hx)) s hs')
  have hrun := run_call (o := o) hspec.can a w g as_ ts ho hgv rfl
  have hrep := rep_app (by rw [List.length_append, List.length_append, hl, List.length_map, a1]) (rep_app hl hx a2) hy
  obtain ⟨m1, m2⟩ := mapM_some hv
  obtain ⟨q1, q2⟩ := hle.get
  have hlen : (xs ++ as_.toList.map a.eval ++ ys).length = (fs ++ l ++ cs).length := by simp only [List.length_append, List.length_map, hl, hl', a1]
  unfold Oper.wp
  rw [hrun]
  refine (hspec.run zO w _ (by rw [hlen, ← m1, q1]) (fun i x s hi hs' => ?_)).mono ?_
  ·have hlt' : i < args'.length := by rw [q1]; exact (List.getElem?_eq_some_iff.1 hs').1
   have hlt : i < (fs ++ l ++ cs).length := by rw [← m1]; exact hlt'
   exact q2 i _ _ (List.getElem?_eq_getElem hlt') hs' _ _ _ _ (RepS.view hm 9 (hrep i x _ hi (List.getElem?_eq_getElem hlt)) (m2 i _ _ (List.getElem?_eq_getElem hlt) (List.getElem?_eq_getElem hlt')))
  ·rintro en w' ⟨x, rfl, hb, hr⟩
   obtain ⟨H', hH'⟩ : ∃ H' : Nat → Value, H' = fun m => if m = h then x else H m := ⟨_, rfl⟩
   have hH : H' h = x := by rw [hH']; simp
   have hne : ∀ m, m ≠ h → H' m = H m := fun m hm => by rw [hH']; simp [hm]
   rcases hr with ⟨hx0, rfl⟩ | ⟨b, cap, xs', hx0, hBb, hbl, hlc, hcm, hsz, hw, hc⟩
   ·refine hK (ext O w.heap.size) H' w' x ⟨(Keep.ext hb (H := H)).lab, (Keep.ext hb (H := H)).hp, fun m hm => hne m (fun e => hm (by simp [e]))⟩ hb ?_ (fun h' m he => ?_)
    ·have := RepS.o (O := ext O w.heap.size) (w := w') (H := H') h (by rw [hH, hx0]; rfl)
     rwa [hH] at this
    ·simp only [Option.some.injEq, Prod.mk.injEq] at he
     obtain ⟨rfl, rfl⟩ := he
     exact .inl ⟨by rw [hH, hx0], rfl⟩
   ·refine hK (fun n => if n = b then h + 1 else ext O w.heap.size n) H' w' x ⟨fun n hn => ?_, (Keep.ext hb (H := H)).hp, fun m hm => hne m (fun e => hm (by simp [e]))⟩ hb ?_ (fun h' m he => ?_)
    ·rw [if_neg (by omega)]; exact (Keep.ext hb (H := H) (O := O)).lab n hn
    ·have := RepS.o (O := fun n => if n = b then h + 1 else ext O w.heap.size n) (w := w') (H := H') h (by rw [hH, hx0]; rfl)
     rwa [hH] at this
    ·simp only [Option.some.injEq, Prod.mk.injEq] at he
     obtain ⟨rfl, rfl⟩ := he
     refine .inr ⟨b, cap, xs', by rw [hH, hx0], by omega, by simp, hbl, hlc, hcm, hsz, hw, fun i r j d hi hj => ?_⟩
     obtain ⟨y, hy, rfl, h1⟩ := hc i r j d hi hj
     exact ⟨y, hy, .v y, h1⟩
theorem OpSem.buildO {t k : Nat} (h : Nat) (ho : o.op = .buildSlice t 0 #[]) (hk : esz P t = some k) (hk0 : 0 < k) : OpSem P B o e M (.o h) (some (h, .own k (P.elem t) [])) := by
 intro O H a w hB hs hm K hK
 have hu := (esz_spec hk).1
 have hrun : (execOp a.eval o).run P w = .ok (.value (.slice (some ⟨w.heap.size, 0, none⟩) 0 0)) (w.alloc (.cells #[] (P.elem t))) := by
  simp [execOp, ho, Instr.buildSlice, run_underlying hu, run_sizeElem hk, newRow, Array.range_zero', Instr.fill]
 have hkeep := Keep.alloc (O := O) (H := H) (w := w) (.cells #[] (P.elem t)) h (.slice (some ⟨w.heap.size, 0, none⟩) 0 0)
 unfold Oper.wp
 rw [hrun]
 obtain ⟨H', hH'⟩ : ∃ H' : Nat → Value, H' = fun m => if m = h then (.slice (some ⟨w.heap.size, 0, none⟩) 0 0 : Value) else H m := ⟨_, rfl⟩
 have hH : H' h = .slice (some ⟨w.heap.size, 0, none⟩) 0 0 := by rw [hH']; simp
 rw [← hH'] at hkeep
 have ho' := RepS.o (O := fun b => if b = w.heap.size then h + 1 else O b) (w := w.alloc (.cells #[] (P.elem t))) (H := H') h (by rw [hH]; rfl)
 rw [hH] at ho'
 refine hK _ _ _ _ hkeep ((Below.refl _ _).alloc (Nat.le_refl _) _) ho' (fun h' m he => ?_)
 simp only [Option.some.injEq, Prod.mk.injEq] at he
 obtain ⟨rfl, rfl⟩ := he
 exact .inr ⟨w.heap.size, 0, #[], by rw [hH]; rfl, hB, by simp, heap_new w _, by simp, by simp [maxLen], by simp, fun r hr => by simp at hr, fun i r j d hi hj => by simp at hi⟩
theorem TrOps.eqNil {t u k d : Nat} {x : Operand} {rows : List (List D)} (ho : o.op = .binOp .eql t x (.const (.slice none 0 0)) u) (hx : opS e x = some (.d (.s k rows))) (hk : esz P t = some k) (hg : o.guard = none) (hd : o.dst = some d) (hdN : d < N)
  (h : ∀ b : Bool, (b = true → rows = []) → TrOps P N w0 O0 ops Q ((d, .d (.v (.bool b))) :: e) M rest) : TrOps P N w0 O0 ops Q e M (o :: rest) := by
 intro O H a w hst
 have hx' := hst.slotsAt o.op.operands x (by simp [ho, Op.operands]) _ hx
 generalize hv : a.eval x = v at hx'
 obtain ⟨ad, l, c, rfl, hnil⟩ : ∃ ad l c, v = .slice ad l c ∧ (ad.isNone = true → rows = []) := by
  cases hx' with
  | d _ _ q => cases q with
   | e a c _ _ => exact ⟨_, _, _, rfl, fun _ => rfl⟩
   | s b off c _ _ y => exact ⟨_, _, _, rfl, fun h => by simp at h⟩
 refine wpList_plain hg fun K hK => ?_
 have hu := (esz_spec hk).1
 have hrun : (execOp a.eval o).run P w = .ok (.value (.bool ad.isNone)) w := by
  have hgd : eqGuard .eql t x (.const (.slice none 0 0)) (.slice ad l c) (.slice none 0 0) = pure () := rfl
  have ey : a.eval (.const (.slice none 0 0)) = .slice none 0 0 := rfl
  simp only [execOp, ho, hv, ey, hgd, Sem.run_bind, Sem.run_pure, Result.andThen_ok]
  simp only [binOp, Op.equal, Op.maxDepth, Sem.run_bind, run_equalIn_slice_nil w 9999 t (P.elem t) ad l c hu, Result.andThen_ok, Sem.run_pure]
 unfold Oper.wp
 rw [hrun]
 refine hK _ _ (h ad.isNone hnil O H _ _ ⟨?_, ?_, hst.bl, hst.lab, ?_, hst.mem⟩)
 ·rw [hd]; exact hst.df
 ·rw [hd]; simp [Act.put, hst.sz]
 ·rw [hd]
  exact put_slots hst.sz hdN (.d _ _ (.v _)) fun n s hs => hst.slots n s hs
end
end Go.Eng
namespace Go.Eng
def RowsIn (O : Nat → Nat) (w : World) (k : Nat) (vals : List Value) (rows : List (List D)) : Prop :=
 vals.length = rows.length * k ∧ (∀ r, r ∈ rows → r.length = k) ∧ ∀ (i : Nat) (r : List D) (j : Nat) (d : D), rows[i]? = some r → r[j]? = some d → ∃ x, vals[i * k + j]? = some x ∧ RepD O w x d
theorem RowsIn.app {O : Nat → Nat} {w : World} {k : Nat} {v1 v2 : List Value} {r1 r2 : List (List D)} (h1 : RowsIn O w k v1 r1) (h2 : RowsIn O w k v2 r2) : RowsIn O w k (v1 ++ v2) (r1 ++ r2) := by
 refine ⟨by simp [h1.1, h2.1, Nat.add_mul], fun r hr => (List.mem_append.1 hr).elim (h1.2.1 r) (h2.2.1 r), fun i r j d hi hj => ?_⟩
 by_cases hlo : i < r1.length
 ·rw [List.getElem?_append_left hlo] at hi
  obtain ⟨x, hx, hr⟩ := h1.2.2 i r j d hi hj
  exact ⟨x, by rw [List.getElem?_append_left (List.getElem?_eq_some_iff.1 hx).1]; exact hx, hr⟩
 ·rw [List.getElem?_append_right (by omega)] at hi
  obtain ⟨x, hx, hr⟩ := h2.2.2 _ r j d hi hj
  have hge : r1.length * k ≤ i * k := Nat.mul_le_mul_right k (by omega)
  refine ⟨x, ?_, hr⟩
  rw [List.getElem?_append_right (by rw [h1.1]; omega), h1.1]
  have : i * k + j - r1.length * k = (i - r1.length) * k + j := by rw [Nat.sub_mul]; omega
  rw [this]; exact hx
theorem RepD.cellsL {O : Nat → Nat} {w : World} {a : Addr} {n c k : Nat} {rows : List (List D)} (h : RepD O w (.slice (some a) n c) (.s k rows)) (hk0 : 0 < k) :
  n = rows.length ∧ ∃ vals : List Value, RowsIn O w k vals rows ∧ ∀ j v, vals[j]? = some v → w.cell? (a.add j) = some v := by
 cases h with
 | e a c k hm => exact ⟨rfl, [], ⟨by simp, fun r hr => by simp at hr, fun i r j d hi => by simp at hi⟩, fun j v hj => by simp at hj⟩
 | s b off c k rows y hc hm hw hO hy hr =>
  refine ⟨rfl, (List.range (rows.length * k)).map y, ⟨by simp, hw, fun i r j d hi hj => ?_⟩, fun j v hj => ?_⟩
  ·have hrl : r.length = k := hw r (List.mem_of_getElem? hi)
   have hjk : j < k := by rw [← hrl]; exact (List.getElem?_eq_some_iff.1 hj).1
   have hil : i < rows.length := (List.getElem?_eq_some_iff.1 hi).1
   have hlt : i * k + j < rows.length * k := by
    have : (i + 1) * k ≤ rows.length * k := Nat.mul_le_mul_right k hil
    rw [Nat.succ_mul] at this; omega
   exact ⟨y (i * k + j), by simp [hlt], hr i r j d hi hj⟩
  ·simp only [List.getElem?_map, Option.map_eq_some_iff] at hj
   obtain ⟨j', hj', rfl⟩ := hj
   have hlt : j < rows.length * k := by have := (List.getElem?_eq_some_iff.1 hj').1; simpa using this
   have : j' = j := by simpa [hlt] using hj'.symm
   subst this
   have hq : j' / k < rows.length := Nat.div_lt_of_lt_mul (by rw [Nat.mul_comm]; exact hlt)
   have hr' := List.getElem?_eq_getElem hq
   have hrl : (rows[j' / k]).length = k := hw _ (List.getElem_mem hq)
   have hd := List.getElem?_eq_getElem (l := rows[j' / k]) (i := j' % k) (by rw [hrl]; exact Nat.mod_lt _ hk0)
   have := hy _ _ _ _ hr' hd
   rw [Addr.add_lit]
   have e1 : j' / k * k + j' % k = j' := by rw [Nat.mul_comm]; exact Nat.div_add_mod j' k
   rw [e1] at this
   exact this
theorem RepD.noneNil {O : Nat → Nat} {w : World} {x : Value} {n c k : Nat} {rows : List (List D)} (h : RepD O w x (.s k rows)) (hx : x = .slice none n c) : rows = [] := by
 cases h with
 | e => rfl
 | s => cases hx
section
variable {P : Program} {B : Nat} {o : Oper} {e : Env} {M : Mem}
theorem OpSem.appendC {x y : Operand} {t k T by_ : Nat} {rows rows2 : List (List D)} {zs : List Value} (h : Nat) (ho : o.op = .call { callee := .builtin .append, args := #[x, y], argTypes := #[t, t] })
  (hx : opS e x = some (.c k rows)) (hy : opS e y = some (.d (.s k rows2))) (hk : esz P t = some k) (hT : P.elem t = T) (hz : zcells P T = some zs) (hzk : zs.length = k) (hk0 : 0 < k) (hby : P.bytesOf T = by_)
  (hone : ∀ r, r ∈ rows ++ rows2 → r.all D.one = true) (hne : 0 < rows2.length) (hlen : (rows.length + rows2.length) ≤ maxLen) (hroom : (rows.length + rows2.length) * by_ ≤ 140737488355328) :
  OpSem P B o e M (.o h) (some (h, .own k T (rows ++ rows2))) := by
 intro O H a w hB hs hm K hK
 have hr := hs x (by simp [ho, Op.operands, Call.operands]) _ hx
 have hv := hs y (by simp [ho, Op.operands, Call.operands]) _ hy
 generalize hxa : a.eval x = xa at hr
 generalize hya : a.eval y = ya at hv
 obtain ⟨hu, i, hi, hik⟩ := esz_spec hk
 rw [hT] at hu hi
 have hbi : i.bytes = by_ := by simpa [Program.bytesOf, hi] using hby
 obtain ⟨z, hiz, hzc⟩ : ∃ z, i.zero = some z ∧ z.cells = zs.toArray := by
  unfold zcells at hz
  cases hq : i.zero with
  | none => simp [hi, hq] at hz
  | some z => simp [hi, hq] at hz; exact ⟨z, rfl, by rw [← hz]⟩
 have hzz : z.cells.size = k := by rw [hzc]; simpa using hzk
 obtain ⟨a2, c2, rfl, hv2⟩ : ∃ a2 c2, ya = .slice (some a2) rows2.length c2 ∧ RepD O w (.slice (some a2) rows2.length c2) (.s k rows2) := by
  cases hv with
  | d _ _ q => cases q with
   | e => simp at hne
   | s b off c _ _ yv h1 h2 h3 h4 h5 h6 => exact ⟨⟨b, off, none⟩, c, rfl, .s b off c k rows2 yv h1 h2 h3 h4 h5 h6⟩
 obtain ⟨_, news, hn1, hn2⟩ := hv2.cellsL hk0
 have finish : ∀ (x' : Value) (cap : Nat) (vals : List Value), RowsIn O w k vals (rows ++ rows2) → x' = .slice (some ⟨w.heap.size, 0, none⟩) (rows.length + rows2.length) cap → rows.length + rows2.length ≤ cap → cap ≤ maxLen →
   (execOp a.eval o).run P w = .ok (.value x') (w.drew.alloc (.cells (vals.toArray ++ Builtin.zeroCells z.cells (cap - (rows.length + rows2.length))) T)) → o.wp P a w K (fun _ _ _ => False) := by
  intro x' cap vals hvals hx' hc1 hc2 hrun
  unfold Oper.wp
  rw [hrun]
  obtain ⟨H', hH'⟩ : ∃ H' : Nat → Value, H' = fun m => if m = h then x' else H m := ⟨_, rfl⟩
  have hH : H' h = x' := by rw [hH']; simp
  have hkp : Keeps O w (fun b' => if b' = w.heap.size then h + 1 else O b') (w.drew.alloc (.cells (vals.toArray ++ Builtin.zeroCells z.cells (cap - (rows.length + rows2.length))) T)) :=
   fun b' hb' hO => ⟨by simp [Nat.ne_of_lt hb', hO], heap_alloc_old w.drew _ hb'⟩
  refine hK (fun b' => if b' = w.heap.size then h + 1 else O b') H' _ x' ⟨fun b' hb' => by simp [Nat.ne_of_lt hb'], fun b' hb' _ => heap_alloc_old w.drew _ hb', fun n hn => by rw [hH']; simp; intro e; subst e; exact (hn (by simp)).elim⟩
   ⟨rfl, rfl, rfl, by simp, fun b' hb' => heap_alloc_old w.drew _ (by simp; omega), Nat.le_succ _⟩ ?_ (fun h' m he => ?_)
  ·have := RepS.o (O := fun b' => if b' = w.heap.size then h + 1 else O b') (w := w.drew.alloc (.cells (vals.toArray ++ Builtin.zeroCells z.cells (cap - (rows.length + rows2.length))) T)) (H := H') h (by rw [hH, hx']; rfl)
   rwa [hH] at this
  ·simp only [Option.some.injEq, Prod.mk.injEq] at he
   obtain ⟨rfl, rfl⟩ := he
   refine .inr ⟨w.heap.size, cap, _, by rw [hH, hx']; simp, hB, by simp, heap_alloc_new w.drew _, by simpa using hc1, hc2, ?_, hvals.2.1, fun i' r j d hi' hj => ?_⟩
   ·simp only [Array.size_append, List.size_toArray, size_zeroCells, hzz, hvals.1, List.length_append, ← Nat.add_mul]
    congr 1; omega
   ·obtain ⟨v, hv, hrep⟩ := hvals.2.2 i' r j d hi' hj
    refine ⟨v, ?_, hrep.mono hkp, hrep.one' ?_⟩
    ·have hlt := (List.getElem?_eq_some_iff.1 hv).1
     rw [Array.getElem?_append_left (by simpa using hlt)]; simpa using hv
    ·have := hone r (List.mem_of_getElem? hi')
     rw [List.all_eq_true] at this
     exact this d (List.mem_of_getElem? hj)
 have hnl : news.length = rows2.length * i.size := by rw [hn1.1, hik]
 cases hr with
 | c ad _ _ hrd =>
  cases ad with
  | none =>
   have hr0 : rows = [] := hrd.noneNil rfl
   subst hr0
   simp only [List.length_nil, Nat.zero_add] at hlen hroom
   have hrun := run_append_nil (P := P) w t o.type T i z hu hi hiz a2 rows2.length c2 news hnl hn2 hne (by simp only [maxLen] at hlen; omega) (by rw [hbi]; omega)
   refine finish (.slice (some ⟨w.heap.size, 0, none⟩) rows2.length (grownCap w rows2.length 0 T)) (grownCap w rows2.length 0 T) news (by simpa using hn1) (by simp) (by simpa using grownCap_ge w rows2.length 0 T) (grownCap_le_maxLen w rows2.length 0 T hlen) ?_
   simp [execOp, ho, resolve, invoke, builtin, hxa, hya, hrun]
  | some a1 =>
   obtain ⟨_, olds, ho1, ho2⟩ := hrd.cellsL hk0
   have hrun := run_append_grow (P := P) w t o.type T i z hu hi hiz a1 rows.length rows.length olds (by rw [ho1.1, hik]) ho2 a2 rows2.length c2 news hnl hn2 (by omega) (by simp only [maxLen] at hlen; omega) (growslice_fits (by omega) (by rw [hbi]; exact hroom))
   refine finish (.slice (some ⟨w.heap.size, 0, none⟩) (rows.length + rows2.length) (grownCap w (rows.length + rows2.length) rows.length T)) (grownCap w (rows.length + rows2.length) rows.length T) (olds ++ news) (ho1.app hn1) rfl (grownCap_ge w (rows.length + rows2.length) rows.length T) (grownCap_le_maxLen w (rows.length + rows2.length) rows.length T hlen) ?_
   simp [execOp, ho, resolve, invoke, builtin, hxa, hya, hrun]
end
end Go.Eng
end

section
namespace Go.Eng
abbrev I (n : Int) : S := .d (.v (.int .i64 n))
abbrev Bo (b : Bool) : S := .d (.v (.bool b))
abbrev ints (l : List Int) : D := .s 1 (l.map fun n => [D.v (.int .i64 n)])
abbrev bools (l : List Bool) : D := .s 1 (l.map fun n => [D.v (.bool n)])
abbrev rows (l : List (List Int)) : D := .s 1 (l.map fun r => [ints r])
abbrev rowss (l : List (List (List Int))) : D := .s 1 (l.map fun r => [rows r])
abbrev Asg := Int × Int
abbrev asg (a : Asg) : List D := [.v (.int .i64 a.1), .v (.int .i64 a.2)]
abbrev asgs (l : List Asg) : D := .s 2 (l.map asg)
structure MOp where
 pre : List Asg
 post : List Asg
 cost : Int
instance : Inhabited MOp := ⟨⟨[], [], 0⟩⟩
structure Multi where
 sizes : List Int
 init : List Int
 goal : List Asg
 ops : List MOp
abbrev opC (o : MOp) : List D := [asgs o.pre, asgs o.post, .v (.int .i64 o.cost)]
abbrev opsD (l : List MOp) : D := .s 3 (l.map opC)
abbrev multi (m : Multi) : S := .g [.d (ints m.sizes), .d (ints m.init), .d (asgs m.goal), .d (opsD m.ops)]
abbrev asgS (a : Asg) : S := .g [I a.1, I a.2]
abbrev opS' (o : MOp) : S := .g [.d (asgs o.pre), .d (asgs o.post), I o.cost]
abbrev flt (f : Int × Int) : S := .g [I f.1, I f.2]
section
variable {P : Program} {B : Nat} {o : Oper} {e : Env} {M : Mem} {s : S}
theorem OpSem.eqS2 {t u : Nat} {x y : Operand} {a b c d : Int} (ho : o.op = .binOp .eql t x y u) (hx : opS e x = some (.g [I a, I b])) (hy : opS e y = some (.g [I c, I d])) (ht : intsOf P t 2 = true) :
  OpSem P B o e M (Bo (decide (a = c ∧ b = d))) none := by
 have h := OpSem.eqS (P := P) (B := B) (o := o) (e := e) (M := M) (xs := [a, b]) (ys := [c, d]) ho hx hy ht rfl rfl
 have : ([a, b] == [c, d]) = decide (a = c ∧ b = d) := by rw [Bool.eq_iff_iff]; simp
 rwa [this] at h
theorem OpSem.neS2 {t u : Nat} {x y : Operand} {a b c d : Int} (ho : o.op = .binOp .neq t x y u) (hx : opS e x = some (.g [I a, I b])) (hy : opS e y = some (.g [I c, I d])) (ht : intsOf P t 2 = true) :
  OpSem P B o e M (Bo (!decide (a = c ∧ b = d))) none := by
 have h := OpSem.neS (P := P) (B := B) (o := o) (e := e) (M := M) (xs := [a, b]) (ys := [c, d]) ho hx hy ht rfl rfl
 have : ([a, b] == [c, d]) = decide (a = c ∧ b = d) := by rw [Bool.eq_iff_iff]; simp
 rwa [this] at h
end
theorem nth_mem {α : Type} [Inhabited α] {l : List α} {n : Int} (h0 : 0 ≤ n) (h1 : n < l.length) : nth l n ∈ l := by
 have : n.toNat < l.length := by omega
 simp [nth, this]
theorem all_succ {p : Nat → Prop} {k : Nat} (h : ∀ v, v < k → p v) (hk : p k) : ∀ v, v < k + 1 → p v := by
 intro v hv
 by_cases he : v = k
 ·rw [he]; exact hk
 ·exact h v (by omega)
theorem Le.bo {b c : Bool} (h : b = c) : Le (Bo b) (Bo c) := h ▸ .refl _
theorem Le.i {b c : Int} (h : b = c) : Le (I b) (I c) := h ▸ .refl _
theorem Le.flt {a b : Int} {f : Int × Int} (h : (a, b) = f) : Le (.g [I a, I b]) (flt f) := h ▸ .refl _
def firstBad (n : Nat) (p : Nat → Bool) : Option Nat := (List.range n).find? fun i => !p i
theorem firstBad_some {n k : Nat} {p : Nat → Bool} (hk : k < n) (h : ∀ j, j < k → p j = true) (hp : p k = false) : firstBad n p = some k := by
 unfold firstBad
 rw [List.find?_range_eq_some]
 refine ⟨by simp [hp], by simpa using hk, fun j hj => by simp [h j hj]⟩
theorem firstBad_none {n : Nat} {p : Nat → Bool} (h : ∀ j, j < n → p j = true) : firstBad n p = none := by
 unfold firstBad
 rw [List.find?_eq_none]
 intro j hj
 rw [List.mem_range] at hj
 simp [h j hj]
def findI {α : Type} [Inhabited α] (p : α → Bool) (l : List α) : Int :=
 match firstBad l.length (fun i => !p (nth l i)) with
 | some i => i
 | none => -1
theorem findI_some {α : Type} [Inhabited α] {p : α → Bool} {l : List α} {k : Nat} (hk : k < l.length) (h : ∀ j, j < k → p (nth l j) = false) (hp : p (nth l k) = true) : findI p l = k := by
 unfold findI
 rw [firstBad_some hk (fun j hj => by simp [h j hj]) (by simp [hp])]
theorem findI_none {α : Type} [Inhabited α] {p : α → Bool} {l : List α} (h : ∀ j : Nat, j < l.length → p (nth l j) = false) : findI p l = -1 := by
 unfold findI
 rw [firstBad_none (fun j hj => by simp [h j hj])]
theorem nth_eq {α : Type} [Inhabited α] {l : List α} {k : Nat} (hk : k < l.length) : nth l (k : Int) = l[k] := by simp [nth, hk]
theorem any_iff {α : Type} [Inhabited α] {p : α → Bool} {l : List α} : l.any p = true ↔ ∃ k : Nat, k < l.length ∧ p (nth l k) = true := by
 rw [List.any_eq_true]
 constructor
 ·rintro ⟨x, hx, hp⟩
  obtain ⟨k, hk, rfl⟩ := List.getElem_of_mem hx
  exact ⟨k, hk, by rw [nth_eq hk]; exact hp⟩
 ·rintro ⟨k, hk, hp⟩
  rw [nth_eq hk] at hp
  exact ⟨_, List.getElem_mem hk, hp⟩
theorem findI_any {α : Type} [Inhabited α] {p : α → Bool} {l : List α} : decide (0 ≤ findI p l) = l.any p := by
 rw [Bool.eq_iff_iff, any_iff, decide_eq_true_eq]
 by_cases h : ∃ k : Nat, k < l.length ∧ p (nth l k) = true
 ·refine ⟨fun _ => h, fun _ => ?_⟩
  unfold findI
  split
  ·omega
  ·rename_i hb
   exfalso
   obtain ⟨k, hk, hp⟩ := h
   unfold firstBad at hb
   rw [List.find?_eq_none] at hb
   have := hb k (List.mem_range.2 hk)
   simp [hp] at this
 ·refine ⟨fun hh => ?_, fun hh => absurd hh h⟩
  rw [findI_none (fun j hj => by
   cases hp : p (nth l j) with
   | false => rfl
   | true => exact absurd ⟨j, hj, hp⟩ h)] at hh
  omega
def Caught (cs : List S) : Prop := ∀ n, 3 ≤ n → cs.mapM (S.view [] n) = some cs
theorem Caught.app {cs : List S} (h : Caught cs) {l l' : List S} (hl : l.mapM (S.view [] 9) = some l') : ([] ++ l ++ cs).mapM (S.view [] 9) = some (l' ++ cs) := by
 simp only [List.nil_append, List.mapM_append, hl, h 9 (by omega)]
 rfl
theorem Caught.arg {cs : List S} (h : Caught cs) {x : S} {fn : Nat} (hx : S.view [] 9 x = some x) : ([] ++ [x, .f fn [] cs] ++ []).mapM (S.view [] 9) = some [x, .f fn [] cs] := by
 have : S.view [] 9 (.f fn [] cs) = some (.f fn [] cs) := by
  have h8 := h 8 (by omega)
  show (match (List.mapM (S.view [] 8) [] : Option (List S)), cs.mapM (S.view [] 8) with
   | some a, some b => some (S.f fn a b)
   | _, _ => none) = _
  rw [h8]
  rfl
 simp only [List.nil_append, List.append_nil, List.mapM_cons, List.mapM_nil, hx, this]
 rfl
abbrev StateP (sizes s : List Int) : Prop := s.length = sizes.length ∧ ∀ v : Nat, v < s.length → 0 ≤ nth s v ∧ nth s v < nth sizes v
abbrev AsgOk (sizes : List Int) (l : List Asg) (i : Nat) : Prop :=
 0 ≤ (nth l i).1 ∧ (nth l i).1 < sizes.length ∧ 0 ≤ (nth l i).2 ∧ (nth l i).2 < nth sizes (nth l i).1 ∧ (0 < i → (nth l (i - 1 : Int)).1 < (nth l i).1)
abbrev AsgsP (sizes : List Int) (l : List Asg) : Prop := ∀ i : Nat, i < l.length → AsgOk sizes l i
def isState (sizes s : List Int) : Bool := decide (StateP sizes s)
def assigns (sizes : List Int) (l : List Asg) : Bool := decide (AsgsP sizes l)
def opFault (m : Multi) (i : Nat) : Int × Int :=
 if ¬ (assigns m.sizes (nth m.ops i).pre = true ∧ assigns m.sizes (nth m.ops i).post = true) then (5, i)
 else if ¬ (0 ≤ (nth m.ops i).cost ∧ (nth m.ops i).cost ≤ 100) then (3, i) else (0, 0)
def opsFault (m : Multi) : Int × Int :=
 match firstBad m.ops.length (fun i => decide (opFault m i = (0, 0))) with
 | some i => opFault m i
 | none => (0, 0)
def validate (m : Multi) : Int × Int :=
 if m.sizes.length = 0 ∨ 8 < m.sizes.length then (2, -1)
 else if ¬ (∀ v : Nat, v < m.sizes.length → 1 ≤ nth m.sizes v ∧ nth m.sizes v ≤ 6) then (3, -1)
 else if isState m.sizes m.init = false then (5, -2)
 else if assigns m.sizes m.goal = false then (5, -3)
 else if 40 < m.ops.length then (2, -1)
 else opsFault m
theorem isState_false {sizes s : List Int} (h : ¬ StateP sizes s) : false = isState sizes s := (decide_eq_false h).symm
theorem isState_true {sizes s : List Int} (h : StateP sizes s) : true = isState sizes s := (decide_eq_true h).symm
theorem assigns_false {sizes : List Int} {l : List Asg} (k : Nat) (hk : k < l.length) (h : ¬ AsgOk sizes l k) : false = assigns sizes l :=
 (decide_eq_false (fun h' => h (h' k hk))).symm
theorem assigns_true {sizes : List Int} {l : List Asg} (h : AsgsP sizes l) : true = assigns sizes l := (decide_eq_true h).symm
abbrev SizesP (sizes : List Int) : Prop := ∀ v : Nat, v < sizes.length → 1 ≤ nth sizes v ∧ nth sizes v ≤ 6
theorem nth_size {sizes : List Int} (h : SizesP sizes) {n : Int} (h0 : 0 ≤ n) (h1 : n < sizes.length) : 1 ≤ nth sizes n ∧ nth sizes n ≤ 6 := by
 have := h n.toNat (by omega)
 rwa [Int.toNat_of_nonneg h0] at this
theorem sizes_any {sizes : List Int} (h : sizes.any (fun n => decide (n < 1 ∨ 6 < n)) = false) : SizesP sizes := by
 intro v hv
 have : ¬ (∃ k : Nat, k < sizes.length ∧ decide (nth sizes k < 1 ∨ 6 < nth sizes k) = true) := fun hh => by have := (any_iff (l := sizes) (p := fun n => decide (n < 1 ∨ 6 < n))).2 hh; rw [h] at this; cases this
 have := fun hh => this ⟨v, hv, hh⟩
 simp at this
 omega
theorem sizes_any' {sizes : List Int} (h : sizes.any (fun n => decide (n < 1 ∨ 6 < n)) = true) : ¬ SizesP sizes := by
 intro hs
 obtain ⟨k, hk, hp⟩ := any_iff.1 h
 have := hs k hk
 simp at hp
 omega
section
variable {m : Multi} (h1 : ¬ (m.sizes.length = 0 ∨ 8 < m.sizes.length)) (h2 : SizesP m.sizes) (h3 : isState m.sizes m.init = true) (h4 : assigns m.sizes m.goal = true) (h5 : ¬ 40 < m.ops.length)
theorem validate_1 {m : Multi} (h : m.sizes.length = 0 ∨ 8 < m.sizes.length) : (2, -1) = validate m := by unfold validate; rw [if_pos h]
include h1
theorem validate_2 (h : ¬ SizesP m.sizes) : (3, -1) = validate m := by unfold validate; rw [if_neg h1, if_pos (by exact h)]
include h2
theorem validate_3 (h : isState m.sizes m.init = false) : (5, -2) = validate m := by unfold validate; rw [if_neg h1, if_neg (by simpa using h2), if_pos h]
include h3
theorem validate_4 (h : assigns m.sizes m.goal = false) : (5, -3) = validate m := by unfold validate; rw [if_neg h1, if_neg (by simpa using h2), if_neg (by simp [h3]), if_pos h]
include h4
theorem validate_5 (h : 40 < m.ops.length) : (2, -1) = validate m := by unfold validate; rw [if_neg h1, if_neg (by simpa using h2), if_neg (by simp [h3]), if_neg (by simp [h4]), if_pos h]
include h5
theorem validate_6 : validate m = opsFault m := by unfold validate; rw [if_neg h1, if_neg (by simpa using h2), if_neg (by simp [h3]), if_neg (by simp [h4]), if_neg h5]
theorem validate_7 {k : Nat} (hk : k < m.ops.length) (hl : ∀ j : Nat, j < k → opFault m j = (0, 0)) {c : Int} (hc : opFault m k = (c, (k : Int))) (hc0 : c ≠ 0) : (c, (k : Int)) = validate m := by
 rw [validate_6 h1 h2 h3 h4 h5]
 unfold opsFault
 rw [firstBad_some hk (fun j hj => by simp [hl j hj]) (by rw [hc]; simp; intro h; exact absurd h hc0)]
 exact hc.symm
theorem validate_8 (hl : ∀ j : Nat, j < m.ops.length → opFault m j = (0, 0)) : (0, 0) = validate m := by
 rw [validate_6 h1 h2 h3 h4 h5]
 unfold opsFault
 rw [firstBad_none (fun j hj => by simp [hl j hj])]
end
theorem opFault_5 {m : Multi} {k : Nat} (h : ¬ (assigns m.sizes (nth m.ops k).pre = true ∧ assigns m.sizes (nth m.ops k).post = true)) : opFault m k = (5, (k : Int)) := by unfold opFault; rw [if_pos h]
theorem opFault_3 {m : Multi} {k : Nat} (h : assigns m.sizes (nth m.ops k).pre = true ∧ assigns m.sizes (nth m.ops k).post = true) (h' : ¬ (0 ≤ (nth m.ops k).cost ∧ (nth m.ops k).cost ≤ 100)) : opFault m k = (3, (k : Int)) := by unfold opFault; rw [if_neg (by simpa using h), if_pos h']
theorem opFault_0 {m : Multi} {k : Nat} (h : assigns m.sizes (nth m.ops k).pre = true ∧ assigns m.sizes (nth m.ops k).post = true) (h' : 0 ≤ (nth m.ops k).cost ∧ (nth m.ops k).cost ≤ 100) : opFault m k = (0, 0) := by unfold opFault; rw [if_neg (by simpa using h), if_neg (by simpa using h')]
def stateFault (m : Multi) (s : List Int) : Int × Int := if validate m = (0, 0) then (if isState m.sizes s = true then (0, 0) else (5, -4)) else validate m
theorem pair0 {f : Int × Int} (h : f.1 = 0 ∧ f.2 = 0) : f = (0, 0) := Prod.ext h.1 h.2
theorem stateFault_1 {m : Multi} {s : List Int} (h : ¬ ((validate m).1 = 0 ∧ (validate m).2 = 0)) : ((validate m).1, (validate m).2) = stateFault m s := by
 unfold stateFault
 rw [if_neg (fun e => h (by rw [e]; exact ⟨rfl, rfl⟩))]
theorem stateFault_2 {m : Multi} {s : List Int} (h : (validate m).1 = 0 ∧ (validate m).2 = 0) (hs : isState m.sizes s = false) : (5, -4) = stateFault m s := by
 unfold stateFault
 rw [if_pos (pair0 h), if_neg (by simp [hs])]
theorem stateFault_3 {m : Multi} {s : List Int} (h : (validate m).1 = 0 ∧ (validate m).2 = 0) (hs : isState m.sizes s = true) : (0, 0) = stateFault m s := by
 unfold stateFault
 rw [if_pos (pair0 h), if_pos hs]
end Go.Eng
end
