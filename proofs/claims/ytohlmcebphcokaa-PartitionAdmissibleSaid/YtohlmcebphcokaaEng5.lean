/- The engine, part 5: calls, equality of structs, slices of slices, small numbers. -/
import Derived.Test.YtohlmcebphcokaaEng4
set_option linter.unusedSimpArgs false
set_option linter.unnecessarySimpa false
set_option linter.unusedVariables false
namespace Go.Eng
open Go.RowKit (Below)

def ext (O : Nat → Nat) (B : Nat) : Nat → Nat := fun b => if b < B then O b else 0
def Fr (B : Nat) : Nat → Nat := fun b => if B ≤ b then 0 else 1
def freshO (fr : Bool) (O : Nat → Nat) (B : Nat) : Nat → Nat := bif fr then Fr B else ext O B

/-- What a function promises: handed such data, it hands back such data and touches nothing old. fr: what it hands back lies in new memory alone. -/
structure Does (P : Program) (fr : Bool) (f : Nat) (args : List S) (res : S) : Prop where
  can : ∀ xs w, (callFunc f xs).run P w = .ok (.enter f xs) w
  run : ∀ (O : Nat → Nat) (w : World) (xs : List Value), xs.length = args.length → (∀ (i : Nat) (x : Value) (s : S), xs[i]? = some x → args[i]? = some s → RepS O zH w x s) →
    Calls P f xs.toArray w fun en w' => ∃ x, en = .returned x ∧ Below w.heap.size w w' ∧ RepS (freshO fr O w.heap.size) zH w' x res

/-- Data without any memory. -/
def S.flat : Nat → S → Bool
  | 0, _ => false
  | n + 1, s => match s with
    | .d (.v _) | .u => true
    | .g cs | .t cs => cs.all (S.flat n)
    | _ => false

theorem RepS.flat {O O' : Nat → Nat} {H H' : Nat → Value} {w w' : World} : ∀ (n : Nat) {x : Value} {s : S}, S.flat n s = true → RepS O H w x s → RepS O' H' w' x s
  | 0, _, _, h, _ => by simp [S.flat] at h
  | n + 1, x, s, h, hr => by
    cases hr with
    | d x y hd =>
      cases hd with
      | v x => exact .d _ _ (.v x)
      | e => simp [S.flat] at h
      | s => simp [S.flat] at h
    | g xs ss hl h1 hg =>
      simp only [S.flat, List.all_eq_true] at h
      exact .g xs ss hl h1 fun i x s hx hs => RepS.flat n (h s (List.mem_of_getElem? hs)) (hg i x s hx hs)
    | t xs ss hl hg =>
      simp only [S.flat, List.all_eq_true] at h
      exact .t xs ss hl fun i x s hx hs => RepS.flat n (h s (List.mem_of_getElem? hs)) (hg i x s hx hs)
    | u => exact .u x
    | p => simp [S.flat] at h
    | r => simp [S.flat] at h
    | o => simp [S.flat] at h
    | q => simp [S.flat] at h
    | w => simp [S.flat] at h
    | a => simp [S.flat] at h
    | f => simp [S.flat] at h
    | c => simp [S.flat] at h

/-- Without handles the table of handles does not matter. -/
theorem RepS.anyH {O : Nat → Nat} {w : World} {x : Value} {s : S} (hr : RepS O zH w x s) (H : Nat → Value) : RepS O H w x s := by
  induction hr with
  | d x y h => exact .d x y h
  | g xs ss hl h1 h ih => exact .g xs ss hl h1 ih
  | p b off cs y hO hy hr => exact .p b off cs y hO hy hr
  | r h b k hH => simp [zH, undef] at hH
  | o h h1 => simp [zH, undef, Value.oneCell'] at h1
  | q h b k i j len cap hH => simp [zH, undef] at hH
  | w h b k lo len L C hH hl => simp [zH, undef] at hH
  | a x K h => exact .a x K h
  | t xs ss hl h ih => exact .t xs ss hl ih
  | f fn xs ys fs cs hl hl' h h' ih ih' => exact .f fn xs ys fs cs hl hl' ih ih'
  | c a k rows h => exact .c a k rows h
  | u x => exact .u x

theorem RepS.keeps {O O' : Nat → Nat} {H : Nat → Value} {w w' : World} (k : Keeps O w O' w') {x : Value} {s : S} (hr : RepS O H w x s) : RepS O' H w' x s := by
  induction hr with
  | d x y h => exact .d x y (h.mono k)
  | g xs ss hl h1 h ih => exact .g xs ss hl h1 ih
  | p b off cs y hO hy hr =>
    refine .p b off cs y (fun j d hd => ?_) (fun j d hd => ?_) (fun j d hd => (hr j d hd).mono k)
    · exact (k b (World.block_lt_of_cell? w _ (hy j d hd)) (hO j d hd)).1
    · exact k.cell (hO j d hd) (hy j d hd)
  | r h b k hH => exact .r h b k hH
  | o h h1 => exact .o h h1
  | q h b k i j len cap hH => exact .q h b k i j len cap hH
  | w h b k lo len L C hH hl => exact .w h b k lo len L C hH hl
  | a x K h => exact .a x K (K.mono _ _ _ _ _ k h)
  | t xs ss hl h ih => exact .t xs ss hl ih
  | f fn xs ys fs cs hl hl' h h' ih ih' => exact .f fn xs ys fs cs hl hl' ih ih'
  | c a kk rows h => exact .c a kk rows (h.mono k)
  | u x => exact .u x

/-- Arguments that hold none of the caller's own memory. -/
theorem RepS.view0 {O : Nat → Nat} {H : Nat → Value} {w : World} : ∀ (n : Nat) {x : Value} {s s' : S}, RepS O H w x s → S.view [] n s = some s' → RepS O zH w x s'
  | 0, _, _, _, _, h => by simp [S.view] at h
  | n + 1, x, s, s', hr, h => by
    have ih := fun {x : Value} {s s' : S} => RepS.view0 (O := O) (H := H) (w := w) n (x := x) (s := s) (s' := s')
    cases hr with
    | d x y hd => simp only [S.view, Option.some.injEq] at h; subst h; exact .d _ _ hd
    | g xs ss hl h1 hg =>
      simp only [S.view, Option.map_eq_some_iff] at h
      obtain ⟨cs, hcs, rfl⟩ := h
      obtain ⟨m1, m2⟩ := mapM_some hcs
      refine .g xs cs (by rw [hl, m1]) h1 fun i x s hx hs => ?_
      have hlt : i < ss.length := by rw [← m1]; exact (List.getElem?_eq_some_iff.1 hs).1
      exact ih (hg i x _ hx (List.getElem?_eq_getElem hlt)) (m2 i _ _ (List.getElem?_eq_getElem hlt) hs)
    | p b off cs y hO hy hr => simp only [S.view, Option.some.injEq] at h; subst h; exact .p b off cs y hO hy hr
    | r h' b k hH => simp [S.view, look] at h
    | o h' h1 => simp [S.view, look] at h
    | q => simp [S.view] at h
    | w => simp [S.view] at h
    | a x K hK => simp only [S.view, Option.some.injEq] at h; subst h; exact .a x K hK
    | t xs ss hl hg =>
      simp only [S.view, Option.map_eq_some_iff] at h
      obtain ⟨cs, hcs, rfl⟩ := h
      obtain ⟨m1, m2⟩ := mapM_some hcs
      refine .t xs cs (by rw [hl, m1]) fun i x s hx hs => ?_
      have hlt : i < ss.length := by rw [← m1]; exact (List.getElem?_eq_some_iff.1 hs).1
      exact ih (hg i x _ hx (List.getElem?_eq_getElem hlt)) (m2 i _ _ (List.getElem?_eq_getElem hlt) hs)
    | f fn xs ys fs cs hl hl' hg hg' =>
      simp only [S.view] at h
      cases hfs : fs.mapM (S.view [] n) with
      | none => simp [hfs] at h
      | some fs' =>
        cases hcs : cs.mapM (S.view [] n) with
        | none => simp [hfs, hcs] at h
        | some cs' =>
          simp only [hfs, hcs, Option.some.injEq] at h
          subst h
          obtain ⟨m1, m2⟩ := mapM_some hfs
          obtain ⟨n1, n2⟩ := mapM_some hcs
          refine .f fn xs ys fs' cs' (by rw [hl, m1]) (by rw [hl', n1]) (fun i x s hx hs => ?_) (fun i x s hx hs => ?_)
          · have hlt : i < fs.length := by rw [← m1]; exact (List.getElem?_eq_some_iff.1 hs).1
            exact ih (hg i x _ hx (List.getElem?_eq_getElem hlt)) (m2 i _ _ (List.getElem?_eq_getElem hlt) hs)
          · have hlt : i < cs.length := by rw [← n1]; exact (List.getElem?_eq_some_iff.1 hs).1
            exact ih (hg' i x _ hx (List.getElem?_eq_getElem hlt)) (n2 i _ _ (List.getElem?_eq_getElem hlt) hs)
    | c a k rows hd => simp only [S.view, Option.some.injEq] at h; subst h; exact .d _ _ hd
    | u => simp [S.view] at h

def Le (s s' : S) : Prop := ∀ (O : Nat → Nat) (H : Nat → Value) (w : World) (x : Value), RepS O H w x s → RepS O H w x s'
theorem Le.refl (s : S) : Le s s := fun _ _ _ _ h => h
theorem Le.of_eq {s s' : S} (h : s = s') : Le s s' := h ▸ .refl s
theorem Le.nil (k : Nat) : Le (.d (.v (.slice none 0 0))) (.d (.s k [])) := fun O H w x h => by
  cases h with
  | d _ _ q => cases q with
    | v _ => exact .d _ _ (.e none 0 k (by simp [maxLen]))
theorem Le.u (s : S) : Le s .u := fun _ _ _ x _ => .u x
theorem Le.c (k : Nat) (rows : List (List D)) : Le (.c k rows) (.d (.s k rows)) := fun O H w x h => by
  cases h with
  | c a k rows h => exact .d _ _ h
inductive Les : List S → List S → Prop
  | nil : Les [] []
  | cons {s s' : S} {l l' : List S} (h : Le s s') (t : Les l l') : Les (s :: l) (s' :: l')
theorem Les.refl : ∀ l, Les l l
  | [] => .nil
  | s :: l => .cons (.refl s) (Les.refl l)
theorem Les.get : ∀ {l l' : List S}, Les l l' → l.length = l'.length ∧ ∀ (i : Nat) (s s' : S), l[i]? = some s → l'[i]? = some s' → Le s s'
  | _, _, .nil => ⟨rfl, fun i s s' h => by simp at h⟩
  | _, _, .cons h t => by
    obtain ⟨h1, h2⟩ := t.get
    refine ⟨by simp [h1], fun i s s' hs hs' => ?_⟩
    cases i with
    | zero => simp at hs hs'; subst hs; subst hs'; exact h
    | succ i => exact h2 i s s' (by simpa using hs) (by simpa using hs')
theorem Le.g {l l' : List S} (h : Les l l') : Le (.g l) (.g l') := fun O H w x hr => by
  obtain ⟨h1, h2⟩ := h.get
  cases hr with
  | g xs ss hl ho hg =>
    refine .g xs l' (by rw [hl, h1]) ho fun i x s hx hs => ?_
    have hlt : i < l.length := by rw [h1]; exact (List.getElem?_eq_some_iff.1 hs).1
    exact h2 i _ _ (List.getElem?_eq_getElem hlt) hs O H w x (hg i x _ hx (List.getElem?_eq_getElem hlt))
theorem Le.t {l l' : List S} (h : Les l l') : Le (.t l) (.t l') := fun O H w x hr => by
  obtain ⟨h1, h2⟩ := h.get
  cases hr with
  | t xs ss hl hg =>
    refine .t xs l' (by rw [hl, h1]) fun i x s hx hs => ?_
    have hlt : i < l.length := by rw [h1]; exact (List.getElem?_eq_some_iff.1 hs).1
    exact h2 i _ _ (List.getElem?_eq_getElem hlt) hs O H w x (hg i x _ hx (List.getElem?_eq_getElem hlt))
theorem Le.d {x y : D} (h : x = y) : Le (.d x) (.d y) := h ▸ .refl _


def opsS (e : Env) : List Operand → Option (List S)
  | [] => some []
  | x :: xs => match opS e x, opsS e xs with
    | some s, some l => some (s :: l)
    | _, _ => none

theorem opsS_rep {e : Env} {O : Nat → Nat} {H : Nat → Value} {w : World} {a : Act} : ∀ (xs : List Operand) (l : List S), opsS e xs = some l → (∀ x, x ∈ xs → ∀ s, opS e x = some s → RepS O H w (a.eval x) s) →
    xs.length = l.length ∧ ∀ (i : Nat) (x : Value) (s : S), (xs.map a.eval)[i]? = some x → l[i]? = some s → RepS O H w x s
  | [], l, h, _ => by simp only [opsS, Option.some.injEq] at h; subst h; exact ⟨rfl, fun i x s h => by simp at h⟩
  | y :: xs, l, h, hs => by
    simp only [opsS] at h
    cases hx : opS e y with
    | none => simp [hx] at h
    | some s =>
      cases hl : opsS e xs with
      | none => simp [hx, hl] at h
      | some l' =>
        simp only [hx, hl, Option.some.injEq] at h
        subst h
        obtain ⟨i1, i2⟩ := opsS_rep xs l' hl (fun x hx => hs x (.tail _ hx))
        refine ⟨by simp [i1], fun i x s' hi hs' => ?_⟩
        cases i with
        | zero => simp at hi hs'; subst hi; subst hs'; exact hs y (.head _) s hx
        | succ i => exact i2 i x s' (by simpa using hi) (by simpa using hs')

theorem Keep.ext {O : Nat → Nat} {H : Nat → Value} {w w' : World} (hb : Below w.heap.size w w') : Keep none none O H w (ext O w.heap.size) H w' :=
  ⟨fun b hlt => by simp [Eng.ext, hlt], fun b hlt _ => hb.block b hlt, fun _ _ => rfl⟩

theorem Fr_ext {O : Nat → Nat} {B : Nat} {w : World} : Keeps (Fr B) w (ext O B) w := fun b _ h => by
  unfold Fr at h
  split at h
  · exact ⟨by simp [ext]; omega, rfl⟩
  · cases h

section
variable {P : Program} {B : Nat} {o : Oper} {e : Env} {M : Mem} {s : S}

theorem run_call {fn : Nat} {xs ys zs : List Value} (can : ∀ xs w, (callFunc fn xs).run P w = .ok (.enter fn xs) w) (a : Act) (w : World) (g : Operand) (as_ : Array Operand) (ts : Array TypeId)
    (ho : o.op = .call { callee := .value g, args := as_, argTypes := ts }) (hg : a.eval g = .func (.func fn) xs.toArray zs.toArray) (ha : as_.toList.map a.eval = ys) :
    (execOp a.eval o).run P w = .ok (.enter fn (xs ++ ys ++ zs).toArray) w := by
  have : as_.map a.eval = ys.toArray := by rw [← ha]; apply Array.ext'; simp
  simp [execOp, ho, resolve, hg, Deferred.ofValue, invoke, this, can]

theorem rep_app {O : Nat → Nat} {H : Nat → Value} {w : World} {xs ys : List Value} {fs gs : List S} (hl : xs.length = fs.length) (h : ∀ (i : Nat) (x : Value) (s : S), xs[i]? = some x → fs[i]? = some s → RepS O H w x s)
    (h' : ∀ (i : Nat) (x : Value) (s : S), ys[i]? = some x → gs[i]? = some s → RepS O H w x s) : ∀ (i : Nat) (x : Value) (s : S), (xs ++ ys)[i]? = some x → (fs ++ gs)[i]? = some s → RepS O H w x s := by
  intro i x s hx hs
  by_cases hi : i < xs.length
  · rw [List.getElem?_append_left hi] at hx
    rw [List.getElem?_append_left (by omega)] at hs
    exact h i x s hx hs
  · rw [List.getElem?_append_right (by omega)] at hx
    rw [List.getElem?_append_right (by omega)] at hs
    rw [← hl] at hs
    exact h' _ x s hx hs

/-- A call whose result needs no memory, or lies in new memory: the callee may read the caller's own memory. -/
theorem OpSem.call {g : Operand} {as_ : Array Operand} {ts : Array TypeId} {fn : Nat} {fs cs l args args' : List S} {res : S} {fr : Bool}
    (hspec : Does P fr fn args res) (hres : fr = true ∨ S.flat 9 res = true)
    (ho : o.op = .call { callee := .value g, args := as_, argTypes := ts }) (hg : opS e g = some (.f fn fs cs)) (ha : opsS e as_.toList = some l)
    (hv : (fs ++ l ++ cs).mapM (S.view M 9) = some args') (hle : Les args' args) : OpSem P B o e M res none := by
  intro O H a w hB hs hm K hK
  have hg' := hs g (by simp [ho, Op.operands, Call.operands]) _ hg
  generalize hgv : a.eval g = gv at hg'
  cases hg' with
  | f _ xs ys _ _ hl hl' hx hy =>
    obtain ⟨a1, a2⟩ := opsS_rep (O := O) (H := H) (w := w) (a := a) as_.toList l ha (fun x hx s hs' => hs x (by simp only [ho, Op.operands, Call.operands]; simpa using .inr (by simpa using hx)) s hs')
    have hrun := run_call (o := o) hspec.can a w g as_ ts ho hgv rfl
    have hrep := rep_app (by rw [List.length_append, List.length_append, hl, List.length_map, a1]) (rep_app hl hx a2) hy
    obtain ⟨m1, m2⟩ := mapM_some hv
    obtain ⟨q1, q2⟩ := hle.get
    have hlen : (xs ++ as_.toList.map a.eval ++ ys).length = (fs ++ l ++ cs).length := by simp only [List.length_append, List.length_map, hl, hl', a1]
    unfold Oper.wp
    rw [hrun]
    refine (hspec.run zO w _ (by rw [hlen, ← m1, q1]) (fun i x s hi hs' => ?_)).mono ?_
    · have hlt' : i < args'.length := by rw [q1]; exact (List.getElem?_eq_some_iff.1 hs').1
      have hlt : i < (fs ++ l ++ cs).length := by rw [← m1]; exact hlt'
      exact q2 i _ _ (List.getElem?_eq_getElem hlt') hs' _ _ _ _ (RepS.view hm 9 (hrep i x _ hi (List.getElem?_eq_getElem hlt)) (m2 i _ _ (List.getElem?_eq_getElem hlt) (List.getElem?_eq_getElem hlt')))
    · rintro en w' ⟨x, rfl, hb, hr⟩
      refine hK (ext O w.heap.size) H w' x (Keep.ext hb) hb ?_ (fun _ _ h => by cases h)
      rcases hres with rfl | hf
      · exact ((show RepS (Fr w.heap.size) zH w' x res from hr).keeps Fr_ext).anyH H
      · exact hr.flat 9 hf

/-- A call that gets none of the caller's own memory. -/
theorem OpSem.call0 {g : Operand} {as_ : Array Operand} {ts : Array TypeId} {fn : Nat} {fs cs l args args' : List S} {res : S} {fr : Bool}
    (hspec : Does P fr fn args res)
    (ho : o.op = .call { callee := .value g, args := as_, argTypes := ts }) (hg : opS e g = some (.f fn fs cs)) (ha : opsS e as_.toList = some l)
    (hv : (fs ++ l ++ cs).mapM (S.view [] 9) = some args') (hle : Les args' args) : OpSem P B o e M res none := by
  intro O H a w hB hs hm K hK
  have hg' := hs g (by simp [ho, Op.operands, Call.operands]) _ hg
  generalize hgv : a.eval g = gv at hg'
  cases hg' with
  | f _ xs ys _ _ hl hl' hx hy =>
    obtain ⟨a1, a2⟩ := opsS_rep (O := O) (H := H) (w := w) (a := a) as_.toList l ha (fun x hx s hs' => hs x (by simp only [ho, Op.operands, Call.operands]; simpa using .inr (by simpa using hx)) s hs')
    have hrun := run_call (o := o) hspec.can a w g as_ ts ho hgv rfl
    have hrep := rep_app (by rw [List.length_append, List.length_append, hl, List.length_map, a1]) (rep_app hl hx a2) hy
    obtain ⟨m1, m2⟩ := mapM_some hv
    obtain ⟨q1, q2⟩ := hle.get
    have hlen : (xs ++ as_.toList.map a.eval ++ ys).length = (fs ++ l ++ cs).length := by simp only [List.length_append, List.length_map, hl, hl', a1]
    unfold Oper.wp
    rw [hrun]
    refine (hspec.run O w _ (by rw [hlen, ← m1, q1]) (fun i x s hi hs' => ?_)).mono ?_
    · have hlt' : i < args'.length := by rw [q1]; exact (List.getElem?_eq_some_iff.1 hs').1
      have hlt : i < (fs ++ l ++ cs).length := by rw [← m1]; exact hlt'
      exact q2 i _ _ (List.getElem?_eq_getElem hlt') hs' _ _ _ _ (RepS.view0 9 (hrep i x _ hi (List.getElem?_eq_getElem hlt)) (m2 i _ _ (List.getElem?_eq_getElem hlt) (List.getElem?_eq_getElem hlt')))
    · rintro en w' ⟨x, rfl, hb, hr⟩
      refine hK (ext O w.heap.size) H w' x (Keep.ext hb) hb ?_ (fun _ _ h => by cases h)
      cases fr with
      | true => exact ((show RepS (Fr w.heap.size) zH w' x res from hr).keeps Fr_ext).anyH H
      | false => exact (show RepS (ext O w.heap.size) zH w' x res from hr).anyH H

theorem OpSem.makeFunc {fn : Nat} {xs ys : Array Operand} {fs cs : List S} (ho : o.op = .makeFunc (.func fn) xs ys) (hx : opsS e xs.toList = some fs) (hy : opsS e ys.toList = some cs) : OpSem P B o e M (.f fn fs cs) none :=
  .value fun O H a w hs _ => by
    obtain ⟨a1, a2⟩ := opsS_rep (O := O) (H := H) (w := w) (a := a) xs.toList fs hx (fun x hx s hs' => hs x (by simp only [ho, Op.operands]; simpa using .inl (by simpa using hx)) s hs')
    obtain ⟨b1, b2⟩ := opsS_rep (O := O) (H := H) (w := w) (a := a) ys.toList cs hy (fun x hx s hs' => hs x (by simp only [ho, Op.operands]; simpa using .inr (by simpa using hx)) s hs')
    refine ⟨.func (.func fn) (xs.toList.map a.eval).toArray (ys.toList.map a.eval).toArray, ?_, .f fn _ _ fs cs (by simpa using a1) (by simpa using b1) a2 b2⟩
    have h1 : xs.map a.eval = (xs.toList.map a.eval).toArray := by apply Array.ext'; simp
    have h2 : ys.map a.eval = (ys.toList.map a.eval).toArray := by apply Array.ext'; simp
    simp only [execOp, ho, Instr.makeFunc, h1, h2]
    simp

/-- A struct type of int fields alone. -/
def intsOf (P : Program) (t : TypeId) (n : Nat) : Bool :=
  match P.underlying t with
  | some (.struct fs) => !P.stoodInHeld t && !P.eqGuardType P.depth t && fs.size == n && fs.toList.zipIdx.all fun (f, i) => f.name != "_" && f.offset == i && vsz P f.type == some (false, 1) && (match P.underlying f.type with | some (.int _) => true | _ => false)
  | _ => false

theorem eqFields_ints (d : Nat) (xs ys : List Int) (w : World) : ∀ (fs : List Field) (k : Nat), k + fs.length = xs.length → xs.length = ys.length →
    (fs.zipIdx k).all (fun (f, i) => f.name != "_" && f.offset == i && vsz P f.type == some (false, 1) && (match P.underlying f.type with | some (.int _) => true | _ => false)) = true →
    (Op.eqFields (d + 1) (xs.map (Value.int .i64)).toArray (ys.map (Value.int .i64)).toArray fs).run P w = .ok (xs.drop k == ys.drop k) w
  | [], k, h1, h2, _ => by
    have e1 : xs.drop k = [] := List.drop_eq_nil_of_le (by simp at h1; omega)
    have e2 : ys.drop k = [] := List.drop_eq_nil_of_le (by simp at h1; omega)
    simp [Op.eqFields, e1, e2]
  | f :: fs, k, h1, h2, h3 => by
    simp only [List.length_cons] at h1
    simp only [List.zipIdx_cons, List.all_cons, Bool.and_eq_true, beq_iff_eq, bne_iff_ne] at h3
    obtain ⟨⟨⟨⟨n1, n2⟩, n3⟩, n4⟩, h3⟩ := h3
    have ih := eqFields_ints d xs ys w fs (k + 1) (by omega) h2 h3
    have hp : ∀ (zs : List Int), k < zs.length → (part f.type (zs.map (Value.int .i64)).toArray f.offset).run P w = .ok (.int .i64 (zs.getD k 0)) w := by
      intro zs hz
      have : (zs.map (Value.int .i64)).toArray[f.offset]? = some (.int .i64 (zs.getD k 0)) := by
        rw [n2]; simp [hz]
      simp [part, (run_isAgg n3 w).1, this]
    obtain ⟨kk, hk⟩ : ∃ kk, P.underlying f.type = some (.int kk) := by
      revert n4
      cases P.underlying f.type with
      | none => intro h; cases h
      | some d => cases d <;> intro h <;> first | exact ⟨_, rfl⟩ | cases h
    have hd : xs.drop k = xs.getD k 0 :: xs.drop (k + 1) := by
      rw [List.drop_eq_getElem_cons (by omega)]; simp [List.getD_eq_getElem?_getD, List.getElem?_eq_getElem (by omega : k < xs.length)]
    have hd' : ys.drop k = ys.getD k 0 :: ys.drop (k + 1) := by
      rw [List.drop_eq_getElem_cons (by omega)]; simp [List.getD_eq_getElem?_getD, List.getElem?_eq_getElem (by omega : k < ys.length)]
    rw [hd, hd']
    simp only [Op.eqFields, if_pos n1, Sem.run_bind, hp xs (by omega), hp ys (by omega), Result.andThen_ok, run_equalIn_int w d f.type .i64 kk _ _ hk, Sem.run_ite, ih, Sem.run_pure]
    generalize xs.getD k 0 = p
    generalize ys.getD k 0 = q
    by_cases he : p = q
    · simp [he]
    · simp [he]

theorem rep_ints {O : Nat → Nat} {H : Nat → Value} {w : World} {v : Value} {xs : List Int} (h : RepS O H w v (.g (xs.map fun n => .d (.v (.int .i64 n))))) : v = .agg (xs.map (Value.int .i64)).toArray := by
  cases h with
  | g zs _ hl _ hg =>
    congr 1
    congr 1
    apply List.ext_getElem?
    intro i
    by_cases hi : i < zs.length
    · have := hg i _ _ (List.getElem?_eq_getElem hi) (by rw [List.getElem?_map, List.getElem?_eq_getElem (by simpa [hl] using hi)]; rfl)
      generalize hz : zs[i] = z at this
      cases this with
      | d _ _ q =>
        cases q with
        | v _ => rw [List.getElem?_eq_getElem hi, hz, List.getElem?_map, List.getElem?_eq_getElem (by simpa [hl] using hi)]; rfl
    · rw [List.getElem?_eq_none (by omega), List.getElem?_eq_none (by simp at hl ⊢; omega)]

theorem run_eq_ints {t n : Nat} {xs ys : List Int} (ht : intsOf P t n = true) (hx : xs.length = n) (hy : ys.length = n) (w : World) :
    (binOp .eql t (.agg (xs.map (Value.int .i64)).toArray) (.agg (ys.map (Value.int .i64)).toArray)).run P w = .ok (.bool (xs == ys)) w ∧
    (binOp .neq t (.agg (xs.map (Value.int .i64)).toArray) (.agg (ys.map (Value.int .i64)).toArray)).run P w = .ok (.bool (!(xs == ys))) w ∧ P.eqGuardType P.depth t = false := by
  unfold intsOf at ht
  cases hu : P.underlying t with
  | none => simp [hu] at ht
  | some d =>
    cases d <;> simp only [hu] at ht <;> try (cases ht; done)
    case struct fs =>
      simp only [Bool.and_eq_true, Bool.not_eq_true', beq_iff_eq] at ht
      obtain ⟨⟨⟨h1, h2⟩, h3⟩, h4⟩ := ht
      have hf : P.fieldsOf t = fs := by simp [Program.fieldsOf, hu]
      have hr := run_equalIn_agg (P := P) w 9999 t (xs.map (Value.int .i64)).toArray (ys.map (Value.int .i64)).toArray (by rw [hf]; exact hu) h1
      rw [hf] at hr
      have he := eqFields_ints (P := P) 9998 xs ys w fs.toList 0 (by simp; omega) (by omega) h4
      simp only [List.drop_zero] at he
      refine ⟨?_, ?_, h2⟩
      · rw [run_eql_struct, hr, he]; rfl
      · rw [run_neq_struct, hr, he]; rfl

def gi (xs : List Int) : S := .g (xs.map fun n => .d (.v (.int .i64 n)))

theorem OpSem.eqS {t u n : Nat} {x y : Operand} {xs ys : List Int} (ho : o.op = .binOp .eql t x y u) (hx : opS e x = some (gi xs)) (hy : opS e y = some (gi ys)) (ht : intsOf P t n = true) (h1 : xs.length = n) (h2 : ys.length = n) :
    OpSem P B o e M (.d (.v (.bool (xs == ys)))) none :=
  .value fun O H a w hs _ => by
    have hx' := rep_ints (hs x (by simp [ho, Op.operands]) _ hx)
    have hy' := rep_ints (hs y (by simp [ho, Op.operands]) _ hy)
    obtain ⟨r1, _, r3⟩ := run_eq_ints ht h1 h2 w
    refine ⟨.bool (xs == ys), ?_, .d _ _ (.v _)⟩
    simp only [execOp, ho, hx', hy', Sem.run_bind, run_eqGuard_agg w .eql t x y _ _ r3, Result.andThen_ok, r1, Sem.run_pure]

theorem OpSem.neS {t u n : Nat} {x y : Operand} {xs ys : List Int} (ho : o.op = .binOp .neq t x y u) (hx : opS e x = some (gi xs)) (hy : opS e y = some (gi ys)) (ht : intsOf P t n = true) (h1 : xs.length = n) (h2 : ys.length = n) :
    OpSem P B o e M (.d (.v (.bool (!(xs == ys))))) none :=
  .value fun O H a w hs _ => by
    have hx' := rep_ints (hs x (by simp [ho, Op.operands]) _ hx)
    have hy' := rep_ints (hs y (by simp [ho, Op.operands]) _ hy)
    obtain ⟨_, r1, r3⟩ := run_eq_ints ht h1 h2 w
    refine ⟨.bool (!(xs == ys)), ?_, .d _ _ (.v _)⟩
    simp only [execOp, ho, hx', hy', Sem.run_bind, run_eqGuard_agg w .neq t x y _ _ r3, Result.andThen_ok, r1, Sem.run_pure]

/-- ok == good, on bools. -/
theorem OpSem.eqB {t u : Nat} {x y : Operand} {b c : Bool} (ho : o.op = .binOp .eql t x y u) (hx : opS e x = some (.d (.v (.bool b)))) (hy : opS e y = some (.d (.v (.bool c)))) (ht : P.underlying t = some .bool) :
    OpSem P B o e M (.d (.v (.bool (b == c)))) none :=
  .value fun O H a w hs _ => by
    have hx' := hs x (by simp [ho, Op.operands]) _ hx
    have hy' := hs y (by simp [ho, Op.operands]) _ hy
    generalize hv : a.eval x = v at hx'
    generalize hu : a.eval y = u at hy'
    cases hx' with
    | d _ _ hx' => cases hx' with
      | v _ => cases hy' with
        | d _ _ hy' => cases hy' with
          | v _ =>
            refine ⟨.bool (b == c), ?_, .d _ _ (.v _)⟩
            simp only [execOp, ho, hv, hu, eqGuard_at_bool, Sem.run_bind, Sem.run_pure, Result.andThen_ok]
            simp only [binOp, Op.equal, Op.maxDepth, Sem.run_bind, run_equalIn_bool' w 9999 t b c ht, Result.andThen_ok, Sem.run_pure]

theorem RepD.clip {O : Nat → Nat} {w : World} {x : Value} {k : Nat} {rows : List (List D)} (h : RepD O w x (.s k rows)) :
    ∃ ad c, x = .slice ad rows.length c ∧ rows.length ≤ c ∧ c ≤ maxLen ∧ RepD O w (.slice ad rows.length rows.length) (.s k rows) := by
  cases h with
  | e a c k hm => exact ⟨a, c, rfl, Nat.zero_le _, hm, .e a 0 k (by simp [maxLen])⟩
  | s b off c k rows y hc hm hw hO hy hr => exact ⟨_, c, rfl, hc, hm, .s b off _ k rows y (Nat.le_refl _) (by omega) hw hO hy hr⟩

theorem RepD.one_s {O : Nat → Nat} {w : World} {x : Value} {k : Nat} {rows : List (List D)} (h : RepD O w x (.s k rows)) : x.oneCell' = true := by cases h <;> rfl

/-- x[:len(x):len(x)] -/
theorem OpSem.clip {t k : Nat} {x h m : Operand} {rows : List (List D)} (ho : o.op = .slice t x none (some h) (some m)) (hx : opS e x = some (.d (.s k rows))) (hh : opS e h = some (.d (.v (.int .i64 rows.length))))
    (hm : opS e m = some (.d (.v (.int .i64 rows.length)))) (ht : esz P t = some k) : OpSem P B o e M (.c k rows) none :=
  .value fun O H a w hs _ => by
    have hx' := hs x (by simp [ho, Op.operands]) _ hx
    have hh' := hs h (by simp [ho, Op.operands]) _ hh
    have hm' := hs m (by simp [ho, Op.operands]) _ hm
    generalize hv : a.eval x = v at hx'
    generalize hu : a.eval h = u at hh'
    generalize hz : a.eval m = z at hm'
    cases hh' with
    | d _ _ hh' => cases hh' with
      | v _ => cases hm' with
        | d _ _ hm' => cases hm' with
          | v _ => cases hx' with
            | d _ _ hx' =>
              obtain ⟨ad, c, hvv, hc, hcm, hrep⟩ := hx'.clip
              refine ⟨_, ?_, .c ad k rows hrep⟩
              rw [hvv] at hv
              have := run_slice_hm (P := P) w t ad rows.length c (esz_spec ht).1 .i64 .i64 rows.length rows.length (by omega) (by omega) (by omega)
              simp only [execOp, ho, hv, hu, hz, Option.map_some, Option.map_none, Sem.run_bind, run_sliceAt_slice w t _ _ _ _ (esz_spec ht).1, this, run_sizeElem ht, Result.andThen_ok, Sem.run_pure, sliced, Int.toNat_natCast]
              cases ad <;> simp [Addr.add_zero']

theorem OpSem.min2 {x y : Operand} {ts : Array TypeId} {m n : Int} (ho : o.op = .call { callee := .builtin .min, args := #[x, y], argTypes := ts }) (hx : opS e x = some (.d (.v (.int .i64 m)))) (hy : opS e y = some (.d (.v (.int .i64 n)))) :
    OpSem P B o e M (.d (.v (.int .i64 (min m n)))) none :=
  .value fun O H a w hs _ => by
    have hx' := hs x (by simp [ho, Op.operands, Call.operands]) _ hx
    have hy' := hs y (by simp [ho, Op.operands, Call.operands]) _ hy
    generalize hv : a.eval x = v at hx'
    generalize hu : a.eval y = u at hy'
    cases hx' with
    | d _ _ hx' => cases hx' with
      | v _ => cases hy' with
        | d _ _ hy' => cases hy' with
          | v _ =>
            refine ⟨.int .i64 (min m n), ?_, .d _ _ (.v _)⟩
            have : (if n < m then n else m) = min m n := by rw [Int.min_def]; split <;> split <;> omega
            simp [execOp, ho, resolve, invoke, builtin, hv, hu, run_min_int2, this]

theorem OpSem.max2 {x y : Operand} {ts : Array TypeId} {m n : Int} (ho : o.op = .call { callee := .builtin .max, args := #[x, y], argTypes := ts }) (hx : opS e x = some (.d (.v (.int .i64 m)))) (hy : opS e y = some (.d (.v (.int .i64 n)))) :
    OpSem P B o e M (.d (.v (.int .i64 (max m n)))) none :=
  .value fun O H a w hs _ => by
    have hx' := hs x (by simp [ho, Op.operands, Call.operands]) _ hx
    have hy' := hs y (by simp [ho, Op.operands, Call.operands]) _ hy
    generalize hv : a.eval x = v at hx'
    generalize hu : a.eval y = u at hy'
    cases hx' with
    | d _ _ hx' => cases hx' with
      | v _ => cases hy' with
        | d _ _ hy' => cases hy' with
          | v _ =>
            refine ⟨.int .i64 (max m n), ?_, .d _ _ (.v _)⟩
            have : (if n > m then n else m) = max m n := by rw [Int.max_def]; split <;> split <;> omega
            simp [execOp, ho, resolve, invoke, builtin, hv, hu, run_max_int2, this]

theorem badd {t : TypeId} {m n : Int} (h0 : -9223372036854775808 ≤ m + n) (h1 : m + n ≤ 9223372036854775807) : binOp .add t (.int .i64 m) (.int .i64 n) = pure (.int .i64 (m + n)) := by
  rw [binOp_add]; simp only [Op.intArith]; rw [IntWalk.i64_in _ ⟨h0, by omega⟩]
theorem bsub {t : TypeId} {m n : Int} (h0 : -9223372036854775808 ≤ m - n) (h1 : m - n ≤ 9223372036854775807) : binOp .sub t (.int .i64 m) (.int .i64 n) = pure (.int .i64 (m - n)) := by
  rw [binOp_sub]; simp only [Op.intArith]; rw [IntWalk.i64_in _ ⟨h0, by omega⟩]
theorem bmul {t : TypeId} {m n : Int} (h0 : -9223372036854775808 ≤ m * n) (h1 : m * n ≤ 9223372036854775807) : binOp .mul t (.int .i64 m) (.int .i64 n) = pure (.int .i64 (m * n)) := by
  rw [binOp_mul]; simp only [Op.intArith]; rw [IntWalk.i64_in _ ⟨h0, by omega⟩]
theorem bquo {t : TypeId} {m n : Int} (h0 : 0 ≤ m) (h1 : m ≤ 9223372036854775807) (hn : 0 < n) : binOp .quo t (.int .i64 m) (.int .i64 n) = pure (.int .i64 (m / n)) := by
  have hd : m.tdiv n = m / n := Int.tdiv_eq_ediv_of_nonneg h0
  have h2 : 0 ≤ m / n := Int.ediv_nonneg h0 (by omega)
  have h3 : m / n ≤ m := Int.ediv_le_self n h0
  rw [binOp_quo]; simp only [Op.intDiv]; rw [if_neg (by omega), hd, IntWalk.i64_in _ ⟨by omega, by omega⟩]
theorem brem {t : TypeId} {m n : Int} (h0 : 0 ≤ m) (hn : 0 < n) : binOp .rem t (.int .i64 m) (.int .i64 n) = pure (.int .i64 (m % n)) := by
  rw [binOp_rem]; simp only [Op.intDiv]; rw [if_neg (by omega), Int.tmod_eq_emod_of_nonneg h0]
theorem blss {t : TypeId} {m n : Int} : binOp .lss t (.int .i64 m) (.int .i64 n) = pure (.bool (decide (m < n))) := by rw [binOp_lss]
theorem bleq {t : TypeId} {m n : Int} : binOp .leq t (.int .i64 m) (.int .i64 n) = pure (.bool (decide (m ≤ n))) := by rw [binOp_leq]
theorem bgtr {t : TypeId} {m n : Int} : binOp .gtr t (.int .i64 m) (.int .i64 n) = pure (.bool (decide (n < m))) := by rw [binOp_gtr]
theorem bgeq {t : TypeId} {m n : Int} : binOp .geq t (.int .i64 m) (.int .i64 n) = pure (.bool (decide (n ≤ m))) := by rw [binOp_geq]
theorem beql {t : TypeId} {m n : Int} : binOp .eql t (.int .i64 m) (.int .i64 n) = pure (.bool (decide (m = n))) := by
  rw [binOp_eql]; congr 2
theorem bneq {t : TypeId} {m n : Int} : binOp .neq t (.int .i64 m) (.int .i64 n) = pure (.bool (!decide (m = n))) := by
  rw [binOp_neq]; congr 2
end
end Go.Eng
