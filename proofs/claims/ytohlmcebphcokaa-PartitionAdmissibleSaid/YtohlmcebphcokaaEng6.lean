/- The engine, part 6: lists of operations, code, loops, a whole function. -/
import Derived.Test.YtohlmcebphcokaaEng5
import Derived.Deep.LoopGhost
set_option linter.unusedSimpArgs false
set_option linter.unnecessarySimpa false
set_option linter.unusedVariables false
namespace Go.Eng
open Go.RowKit (Below)

abbrev Post := Exit → Act → World → Prop

def TrOps (P : Program) (N : Nat) (w0 : World) (O0 : Nat → Nat) (ops : Array Oper) (Q : Post) (e : Env) (M : Mem) (rest : List Oper) : Prop :=
  ∀ (O : Nat → Nat) (H : Nat → Value) (a : Act) (w : World), St N w0 O0 e M O H a w → wpList P ops Q rest a w

def Tr (P : Program) (N : Nat) (w0 : World) (O0 : Nat → Nat) (e : Env) (M : Mem) (c : Code) (Q : Post) : Prop :=
  ∀ (O : Nat → Nat) (H : Nat → Value) (a : Act) (w : World), St N w0 O0 e M O H a w → c.wp P Q a w

def At (N : Nat) (w0 : World) (O0 : Nat → Nat) (e : Env) (M : Mem) (x : Exit) (Q : Post) : Prop :=
  ∀ (O : Nat → Nat) (H : Nat → Value) (a : Act) (w : World), St N w0 O0 e M O H a w → Q x a w

def kill (h : Nat) (e : Env) : Env := e.map fun p => (p.1, bif S.ok 9 h p.2 then p.2 else .u)
def Mo.kill (h : Nat) : Mo → Mo
  | .box cs => .box (cs.map fun s => bif S.ok 9 h s then s else .u)
  | m => m
def killM (h : Nat) (M : Mem) : Mem := M.map fun p => (p.1, bif Nat.beq p.1 h then .gone else p.2.kill h)

theorem look_map {α : Type} (f : Nat → α → α) (n : Nat) : ∀ (e : List (Nat × α)), look (e.map fun p => (p.1, f p.1 p.2)) n = (look e n).map (f n)
  | [] => rfl
  | (d, v) :: e => by
    simp only [List.map_cons, look]
    cases hb : Nat.beq d n with
    | false => simpa using look_map f n e
    | true => simp [Nat.eq_of_beq_eq_true hb]

theorem look_kill {h n : Nat} {e : Env} {s : S} (hs : look (kill h e) n = some s) : ∃ s', look e n = some s' ∧ ((S.ok 9 h s' = true ∧ s = s') ∨ s = .u) := by
  unfold kill at hs
  rw [look_map (fun _ v => bif S.ok 9 h v then v else .u)] at hs
  cases hl : look e n with
  | none => simp [hl] at hs
  | some s' =>
    simp only [hl, Option.map_some, Option.some.injEq] at hs
    refine ⟨s', rfl, ?_⟩
    cases hok : S.ok 9 h s' with
    | true => rw [hok] at hs; exact .inl ⟨rfl, hs.symm⟩
    | false => rw [hok] at hs; exact .inr hs.symm

theorem look_killM {h n : Nat} {M : Mem} {m : Mo} (hs : look (killM h M) n = some m) : ∃ m', look M n = some m' ∧ (m = .gone ∨ (n ≠ h ∧ m = m'.kill h)) := by
  unfold killM at hs
  rw [look_map (fun d (v : Mo) => bif Nat.beq d h then Mo.gone else v.kill h)] at hs
  cases hl : look M n with
  | none => simp [hl] at hs
  | some m' =>
    simp only [hl, Option.map_some, Option.some.injEq] at hs
    refine ⟨m', rfl, ?_⟩
    cases hb : Nat.beq n h with
    | true => rw [hb] at hs; exact .inl hs.symm
    | false => rw [hb] at hs; exact .inr ⟨fun e => by rw [e] at hb; simp at hb, hs.symm⟩

theorem MHold.kill {O : Nat → Nat} {H : Nat → Value} {B : Nat} {w : World} {n h : Nat} {m : Mo} (hm : MHold O H B w n m) : MHold O H B w n (m.kill h) := by
  cases m with
  | gone => trivial
  | fr K => exact hm
  | own => exact hm
  | box cs =>
    obtain ⟨b, xs, T, h1, h2, h3, h4, h5, h6⟩ := hm
    refine ⟨b, xs, T, h1, h2, h3, h4, by simpa using h5, fun i s hs => ?_⟩
    simp only [List.getElem?_map, Option.map_eq_some_iff] at hs
    obtain ⟨s', hs', rfl⟩ := hs
    obtain ⟨x, hx, hr, ho⟩ := h6 i s' hs'
    refine ⟨x, hx, ?_, ho⟩
    cases S.ok 9 h s' with
    | true => exact hr
    | false => exact .u x

theorem Mo.kill_ok (h : Nat) (m : Mo) : Mo.ok 9 h (m.kill h) = true := by
  cases m with
  | gone => rfl
  | fr K => rfl
  | own => rfl
  | box cs =>
    simp only [Mo.kill, Mo.ok, List.all_map, List.all_eq_true, Function.comp]
    intro s _
    cases hk : S.ok 9 h s with
    | true => simpa using hk
    | false => rfl

section
variable {P : Program} {N : Nat} {w0 : World} {O0 : Nat → Nat} {ops : Array Oper} {Q : Post} {e : Env} {M : Mem} {rest : List Oper} {o : Oper} {s : S}

theorem St.size {O : Nat → Nat} {H : Nat → Value} {a : Act} {w : World} (h : St N w0 O0 e M O H a w) : w0.heap.size ≤ w.heap.size := h.bl.size

theorem put_slots {O : Nat → Nat} {H : Nat → Value} {a : Act} {w : World} {d : Nat} {x : Value} (hN : a.tmps.size = N) (hd : d < N) (hx : RepS O H w x s)
    (hs : ∀ n s, look e n = some s → ∃ x, a.tmps[n]? = some x ∧ RepS O H w x s) : ∀ n s', look ((d, s) :: e) n = some s' → ∃ y, (a.put (some d) x).tmps[n]? = some y ∧ RepS O H w y s' := by
  intro n s' hl
  rcases look_cons hl with ⟨rfl, rfl⟩ | ⟨hne, hl⟩
  · exact ⟨x, by simp [Act.put, hN, hd], hx⟩
  · obtain ⟨y, hy, hr⟩ := hs n s' hl
    exact ⟨y, by simp only [Act.put]; rw [Array.getElem?_setIfInBounds_ne (by omega)]; exact hy, hr⟩

theorem Oper.wp_false {K : Act → World → Prop} {a : Act} {w : World} (h : o.wp P a w K (fun _ _ _ => False)) (Q : Post) : o.wp P a w K Q := by
  unfold Oper.wp at *
  generalize (execOp a.eval o).run P w = r at *
  cases r with
  | ok n w' =>
    cases n <;> simp only [Oper.upon] at h ⊢ <;> first
      | exact h
      | exact Calls.mono h (fun e w'' he => by
          cases e with
          | returned v => exact he
          | panicked c => exact he.elim
          | outgrown => obtain ⟨_, _, h⟩ := he; exact h.elim)
  | halt x w' => cases x <;> simp only [Oper.upon] at h ⊢

/-- One operation that changes nothing old, of which no handle comes. -/
theorem TrOps.sem (hsem : OpSem P w0.heap.size o e M s none) {d : Nat} (hg : o.guard = none) (hd : o.dst = some d) (hdN : d < N)
    (h : TrOps P N w0 O0 ops Q ((d, s) :: e) M rest) : TrOps P N w0 O0 ops Q e M (o :: rest) := by
  intro O H a w hst
  refine wpList_plain hg fun K hK => Oper.wp_false (hsem O H a w hst.size (hst.slotsAt _) hst.mem K ?_) Q
  intro O' H' w' x hk hb hr _
  have hsz := hst.size
  refine hK _ _ (h O' H' _ _ ⟨?_, ?_, hst.bl.trans (hb.mono hst.size), fun b hb' => (hk.lab b (by omega)).trans (hst.lab b hb'), ?_, fun h' m hm => ?_⟩)
  · rw [hd]; exact hst.df
  · rw [hd]; simp [Act.put, hst.sz]
  · rw [hd]
    exact put_slots hst.sz hdN hr fun n s hs => by
      obtain ⟨y, hy, hr⟩ := hst.slots n s hs
      exact ⟨y, hy, hr.mono0 hk⟩
  · exact (hst.mem h' m hm).mono hk (by simp) (by simp) 0 (fun h he => by cases he) (.inl rfl)

/-- One operation that brings a new handle. -/
theorem TrOps.semM {h0 : Nat} {m0 : Mo} (hsem : OpSem P w0.heap.size o e M s (some (h0, m0))) {d : Nat} (hg : o.guard = none) (hd : o.dst = some d) (hdN : d < N)
    (h : TrOps P N w0 O0 ops Q ((d, s) :: kill h0 e) ((h0, m0) :: killM h0 M) rest) : TrOps P N w0 O0 ops Q e M (o :: rest) := by
  intro O H a w hst
  refine wpList_plain hg fun K hK => Oper.wp_false (hsem O H a w hst.size (hst.slotsAt _) hst.mem K ?_) Q
  intro O' H' w' x hk hb hr hm0
  have hsz := hst.size
  refine hK _ _ (h O' H' _ _ ⟨?_, ?_, hst.bl.trans (hb.mono hst.size), fun b hb' => (hk.lab b (by omega)).trans (hst.lab b hb'), ?_, fun h' m hm => ?_⟩)
  · rw [hd]; exact hst.df
  · rw [hd]; simp [Act.put, hst.sz]
  · rw [hd]
    refine put_slots hst.sz hdN hr fun n s hs => ?_
    obtain ⟨s', hs', hor⟩ := look_kill hs
    obtain ⟨y, hy, hr⟩ := hst.slots n s' hs'
    rcases hor with ⟨hok, rfl⟩ | rfl
    · exact ⟨y, hy, hr.mono hk 9 (fun h he => by cases he; exact hok) (.inr (by omega))⟩
    · exact ⟨y, hy, .u y⟩
  · rcases look_cons hm with ⟨rfl, rfl⟩ | ⟨hne, hm⟩
    · exact hm0 _ _ rfl
    · obtain ⟨m', hm', hor⟩ := look_killM hm
      rcases hor with rfl | ⟨hn, rfl⟩
      · trivial
      · exact ((hst.mem h' m' hm').kill (h := h0)).mono hk (by simp) (by simp; omega) 9 (fun h1 he => by cases he; exact Mo.kill_ok _ m') (.inr (by omega))

/-- A guarded operation that is wanted is like any other. -/
theorem TrOps.guardT {j d' : Nat} {b : Bool} {oj : Oper} (hg : o.guard = some (j, b)) (hj : ops[j]? = some oj) (hdj : oj.dst = some d') (hb : look e d' = some (.d (.v (.bool b))))
    (h : TrOps P N w0 O0 ops Q e M ({ o with guard := none } :: rest)) : TrOps P N w0 O0 ops Q e M (o :: rest) := by
  intro O H a w hst
  have := h O H a w hst
  obtain ⟨x, hx, hr⟩ := hst.slots _ _ hb
  have hxb : x = .bool b := by
    cases hr with
    | d _ _ q => cases q with
      | v _ => rfl
  subst hxb
  have hw : Region.wanted o (yielded ops a.tmps) = true := by simp [Region.wanted, hg, yielded, hj, hdj, hx]
  simp only [wpList, hw, if_true]
  simp only [wpList, Region.wanted, if_true] at this
  exact this

def isB (want : Bool) : Value → Bool
  | .bool c => c == want
  | _ => false

theorem wanted_isB {o : Oper} {ops : Array Oper} {tmps : Array Value} {j d' : Nat} {b : Bool} {oj : Oper} {v : Value} (hg : o.guard = some (j, b)) (hj : ops[j]? = some oj) (hdj : oj.dst = some d') (hx : tmps[d']? = some v) : Region.wanted o (yielded ops tmps) = isB b v := by
  simp only [Region.wanted, hg, yielded, hj, Option.bind_some, hdj, hx]
  cases v <;> simp [isB]

/-- A guarded operation that is not wanted leaves its slot undefined. -/
theorem TrOps.guardF {j d d' : Nat} {b : Bool} {oj : Oper} {v : Value} (hg : o.guard = some (j, b)) (hj : ops[j]? = some oj) (hdj : oj.dst = some d') (hb : look e d' = some (.d (.v v))) (hv : isB b v = false) (hd : o.dst = some d) (hdN : d < N)
    (h : TrOps P N w0 O0 ops Q ((d, .d (.v undef)) :: e) M rest) : TrOps P N w0 O0 ops Q e M (o :: rest) := by
  intro O H a w hst
  obtain ⟨x, hx, hr⟩ := hst.slots _ _ hb
  have hxb : x = v := by
    cases hr with
    | d _ _ q => cases q with
      | v _ => rfl
  subst hxb
  have hw : Region.wanted o (yielded ops a.tmps) = false := by rw [wanted_isB hg hj hdj hx, hv]
  simp only [wpList, hw]
  rw [if_neg (by simp)]
  refine h O H _ w ⟨?_, ?_, hst.bl, hst.lab, ?_, hst.mem⟩
  · rw [hd]; exact hst.df
  · rw [hd]; simp [Act.put, hst.sz]
  · rw [hd]; exact put_slots hst.sz hdN (.d _ _ (.v _)) hst.slots

theorem TrOps.nil (h : At N w0 O0 e M .normal Q) : TrOps P N w0 O0 ops Q e M [] := fun O H a w hst => h O H a w hst

theorem Tr.region {id : Nat} {l : List Oper} (h : TrOps P N w0 O0 l.toArray Q e M l) : Tr P N w0 O0 e M (.region id l.toArray false) Q :=
  fun O H a w hst => wp_region_lit (h O H a w hst)

theorem Tr.seq {c d : Code} (h : Tr P N w0 O0 e M c (Exit.then (d.wp P Q) Q)) : Tr P N w0 O0 e M (.seq c d) Q := fun O H a w hst => wp_seq (h O H a w hst)
theorem Tr.block {id : Nat} {c : Code} (h : Tr P N w0 O0 e M c (Exit.inBlock id Q)) : Tr P N w0 O0 e M (.block id c) Q := fun O H a w hst => wp_block (h O H a w hst)
theorem Tr.skip (h : At N w0 O0 e M .normal Q) : Tr P N w0 O0 e M .skip Q := fun O H a w hst => wp_skip (h O H a w hst)
theorem Tr.exit {id : Nat} (h : At N w0 O0 e M (.exit id) Q) : Tr P N w0 O0 e M (.exit id) Q := fun O H a w hst => wp_exit (h O H a w hst)
theorem Tr.ret (h : At N w0 O0 e M .ret Q) : Tr P N w0 O0 e M .ret Q := fun O H a w hst => wp_ret (h O H a w hst)
theorem Tr.cond {c : Operand} {x y : Code} {b : Bool} (hc : opS e c = some (.d (.v (.bool b)))) (ht : b = true → Tr P N w0 O0 e M x Q) (hf : b = false → Tr P N w0 O0 e M y Q) : Tr P N w0 O0 e M (.cond c x y) Q := by
  intro O H a w hst
  have hr := hst.slotsAt #[c] c (by simp) _ hc
  refine wp_cond_split (t := b) ?_ (fun h => ht h O H a w hst) (fun h => hf h O H a w hst)
  generalize a.eval c = v at hr
  cases hr with
  | d _ _ q => cases q with
    | v _ => rfl

theorem At.seq {c : Code} (h : Tr P N w0 O0 e M c Q) : At N w0 O0 e M .normal (Exit.then (c.wp P Q) Q) := h
theorem At.pass_exit {K : Act → World → Prop} {i : Nat} (h : At N w0 O0 e M (.exit i) Q) : At N w0 O0 e M (.exit i) (Exit.then K Q) := h
theorem At.pass_ret {K : Act → World → Prop} (h : At N w0 O0 e M .ret Q) : At N w0 O0 e M .ret (Exit.then K Q) := h
theorem At.block_normal {i : Nat} (h : At N w0 O0 e M .normal Q) : At N w0 O0 e M .normal (Exit.inBlock i Q) := h
theorem At.block_ret {i : Nat} (h : At N w0 O0 e M .ret Q) : At N w0 O0 e M .ret (Exit.inBlock i Q) := h
theorem At.block_same {i : Nat} (h : At N w0 O0 e M .normal Q) : At N w0 O0 e M (.exit i) (Exit.inBlock i Q) := fun O H a w hst => by
  simp only [Exit.inBlock, if_true]; exact h O H a w hst
theorem At.block_other {i j : Nat} (hij : i ≠ j) (h : At N w0 O0 e M (.exit i) Q) : At N w0 O0 e M (.exit i) (Exit.inBlock j Q) := fun O H a w hst => by
  simp only [Exit.inBlock, if_neg hij]; exact h O H a w hst

/-- What may be forgotten or seen otherwise. -/
def Wk (N : Nat) (w0 : World) (O0 : Nat → Nat) (e : Env) (M : Mem) (e' : Env) (M' : Mem) : Prop :=
  ∀ (O : Nat → Nat) (H : Nat → Value) (a : Act) (w : World), St N w0 O0 e M O H a w → ∃ O' H', St N w0 O0 e' M' O' H' a w

/-- Entries and memory that are kept, one by one. -/
inductive Sub (e : Env) (M : Mem) : Env → Mem → Prop
  | nil : Sub e M [] []
  | slot {n : Nat} {s s' : S} {e' : Env} {M' : Mem} (h : look e n = some s) (hl : Le s s') (t : Sub e M e' M') : Sub e M ((n, s') :: e') M'
  | mem {h : Nat} {m : Mo} {e' : Env} {M' : Mem} (hm : look M h = some m) (t : Sub e M e' M') : Sub e M e' ((h, m) :: M')
  | memEq {h : Nat} {m m' : Mo} {e' : Env} {M' : Mem} (hm : look M h = some m) (he : m = m') (t : Sub e M e' M') : Sub e M e' ((h, m') :: M')
  | boxLe {h : Nat} {cs cs' : List S} {e' : Env} {M' : Mem} (hm : look M h = some (.box cs)) (hl : Les cs cs') (t : Sub e M e' M') : Sub e M e' ((h, .box cs') :: M')

theorem Sub.st {e' : Env} {M' : Mem} (hs : Sub e M e' M') {O : Nat → Nat} {H : Nat → Value} {a : Act} {w : World} (h : St N w0 O0 e M O H a w) : St N w0 O0 e' M' O H a w := by
  induction hs with
  | nil => exact ⟨h.df, h.sz, h.bl, h.lab, (fun n s hl => by cases hl), (fun n s hl => by cases hl)⟩
  | slot hn hl t ih =>
    refine ⟨h.df, h.sz, h.bl, h.lab, fun n s hs => ?_, ih.mem⟩
    rcases look_cons hs with ⟨rfl, rfl⟩ | ⟨_, hs⟩
    · obtain ⟨x, hx, hr⟩ := h.slots _ _ hn
      exact ⟨x, hx, hl _ _ _ _ hr⟩
    · exact ih.slots n s hs
  | mem hm t ih =>
    refine ⟨h.df, h.sz, h.bl, h.lab, ih.slots, fun n m hs => ?_⟩
    rcases look_cons hs with ⟨rfl, rfl⟩ | ⟨_, hs⟩
    · exact h.mem _ _ hm
    · exact ih.mem n m hs
  | memEq hm he t ih =>
    subst he
    refine ⟨h.df, h.sz, h.bl, h.lab, ih.slots, fun n m hs => ?_⟩
    rcases look_cons hs with ⟨rfl, rfl⟩ | ⟨_, hs⟩
    · exact h.mem _ _ hm
    · exact ih.mem n m hs
  | boxLe hm hl t ih =>
    refine ⟨h.df, h.sz, h.bl, h.lab, ih.slots, fun n m hs => ?_⟩
    rcases look_cons hs with ⟨rfl, rfl⟩ | ⟨_, hs⟩
    · obtain ⟨b, xs, T, h1, h2, h3, h4, h5, h6⟩ := h.mem _ _ hm
      obtain ⟨g1, g2⟩ := hl.get
      refine ⟨b, xs, T, h1, h2, h3, h4, by rw [h5, g1], fun i s hs => ?_⟩
      have hlt := (List.getElem?_eq_some_iff.1 hs).1
      obtain ⟨x, hx, hr, ho⟩ := h6 i _ (List.getElem?_eq_getElem (by omega))
      exact ⟨x, hx, g2 i _ _ (List.getElem?_eq_getElem (by omega)) hs _ _ _ _ hr, ho⟩
    · exact ih.mem n m hs

theorem Tr.wk {e' : Env} {M' : Mem} {c : Code} (hs : Sub e M e' M') (h : Tr P N w0 O0 e' M' c Q) : Tr P N w0 O0 e M c Q := fun O H a w hst => h O H a w (hs.st hst)
theorem At.wk {e' : Env} {M' : Mem} {x : Exit} (hs : Sub e M e' M') (h : At N w0 O0 e' M' x Q) : At N w0 O0 e M x Q := fun O H a w hst => h O H a w (hs.st hst)

/-- The invariant of a loop, at a ghost state of which a number goes down. -/
def Inv (N : Nat) (w0 : World) (O0 : Nat → Nat) {X : Type} (p : X → Prop) (I : X → Env) (J : X → Mem) (μ : X → Nat) (n : Nat) (a : Act) (w : World) : Prop :=
  ∃ (x : X) (O : Nat → Nat) (H : Nat → Value), p x ∧ μ x < n ∧ St N w0 O0 (I x) (J x) O H a w

theorem Tr.loop {X : Type} {c : Code} (p : X → Prop) (I : X → Env) (J : X → Mem) (μ : X → Nat) (x0 : X) (hp : p x0) (h0 : Sub e M (I x0) (J x0))
    (hb : ∀ x, p x → Tr P N w0 O0 (I x) (J x) c (Exit.then (Inv N w0 O0 p I J μ (μ x)) Q)) : Tr P N w0 O0 e M (.loop c) Q := by
  intro O H a w hst
  refine wp_loop_ghost (fun n a w => ∃ (x : X) (O : Nat → Nat) (H : Nat → Value), p x ∧ μ x = n ∧ St N w0 O0 (I x) (J x) O H a w) (μ x0) ⟨x0, O, H, hp, rfl, h0.st hst⟩ ?_
  rintro n a w ⟨x, O, H, hp, rfl, hst⟩
  refine wp_mono (hb x hp O H a w hst) fun ex a' w' hq => ?_
  cases ex with
  | normal =>
    obtain ⟨y, O', H', hp', hlt, hst'⟩ := hq
    exact ⟨μ y, hlt, y, O', H', hp', rfl, hst'⟩
  | exit id => exact hq
  | goto l => exact hq
  | ret => exact hq
  | panic c => exact hq
  | outgrown => exact hq

theorem At.again {X : Type} {p : X → Prop} {I : X → Env} {J : X → Mem} {μ : X → Nat} {n : Nat} (y : X) (hp : p y) (hs : Sub e M (I y) (J y)) (hlt : μ y < n) : At N w0 O0 e M .normal (Exit.then (Inv N w0 O0 p I J μ n) Q) :=
  fun O H a w hst => ⟨y, O, H, hp, hlt, hs.st hst⟩

/-- Where ways meet again: one assertion for all of them. -/
theorem Tr.cut {c d : Code} (e' : Env) (M' : Mem) (h1 : Tr P N w0 O0 e M c (Exit.then (fun a w => ∃ O H, St N w0 O0 e' M' O H a w) Q)) (h2 : Tr P N w0 O0 e' M' d Q) : Tr P N w0 O0 e M (.seq c d) Q := by
  refine Tr.seq fun O H a w hst => wp_mono (h1 O H a w hst) fun ex a' w' hq => ?_
  cases ex with
  | normal => obtain ⟨O', H', hst'⟩ := hq; exact h2 O' H' a' w' hst'
  | exit id => exact hq
  | goto l => exact hq
  | ret => exact hq
  | panic c => exact hq
  | outgrown => exact hq
theorem At.meet {e' : Env} {M' : Mem} (hs : Sub e M e' M') : At N w0 O0 e M .normal (Exit.then (fun a w => ∃ O H, St N w0 O0 e' M' O H a w) Q) :=
  fun O H a w hst => ⟨O, H, hs.st hst⟩

/-- A slot that is known to hold nil becomes an empty slice of the call's own. -/
theorem Tr.ownNil {c : Code} {n : Nat} (h k T : Nat) (hn : look e n = some (.d (.v (.slice none 0 0)))) (hc : Tr P N w0 O0 ((n, .o h) :: kill h e) ((h, .own k T []) :: killM h M) c Q) : Tr P N w0 O0 e M c Q := by
  intro O H a w hst
  obtain ⟨x, hx, hr⟩ := hst.slots _ _ hn
  have hxb : x = .slice none 0 0 := by
    cases hr with
    | d _ _ q => cases q with
      | v _ => rfl
  subst hxb
  obtain ⟨H', hH'⟩ : ∃ H' : Nat → Value, H' = fun m => if m = h then (.slice none 0 0 : Value) else H m := ⟨_, rfl⟩
  have hh : H' h = .slice none 0 0 := by rw [hH']; simp
  have hk : Keep none (some h) O H w O H' w := ⟨fun _ _ => rfl, fun _ _ _ => rfl, fun n hn => by rw [hH']; simp; intro e; subst e; exact (hn rfl).elim⟩
  refine hc O H' a w ⟨hst.df, hst.sz, hst.bl, hst.lab, fun m s hs => ?_, fun m' m hm => ?_⟩
  · rcases look_cons hs with ⟨rfl, rfl⟩ | ⟨_, hs⟩
    · refine ⟨_, hx, ?_⟩
      have := RepS.o (O := O) (H := H') (w := w) h (by rw [hh]; rfl)
      rwa [hh] at this
    · obtain ⟨s', hs', hor⟩ := look_kill hs
      obtain ⟨y, hy, hr⟩ := hst.slots _ s' hs'
      rcases hor with ⟨hok, rfl⟩ | rfl
      · exact ⟨y, hy, hr.mono hk 9 (fun h he => by cases he; exact hok) (.inr (by omega))⟩
      · exact ⟨y, hy, .u y⟩
  · rcases look_cons hm with ⟨rfl, rfl⟩ | ⟨hne, hm⟩
    · exact .inl ⟨hh, rfl⟩
    · obtain ⟨m2, hm2, hor⟩ := look_killM hm
      rcases hor with rfl | ⟨hn, rfl⟩
      · trivial
      · exact ((hst.mem m' m2 hm2).kill (h := h)).mono hk (by simp) (by simp; omega) 9 (fun h1 he => by cases he; exact Mo.kill_ok _ m2) (.inr (by omega))

theorem TrOps.tr {c : Code} (h : Tr P N w0 O0 e M c Q) : TrOps P N w0 O0 ops (Exit.then (c.wp P Q) Q) e M [] := fun O H a w hst => h O H a w hst
end
end Go.Eng
