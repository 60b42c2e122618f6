/- The engine, part 8: the beginning and the end of a function; memory that is given up. -/
import Derived.Test.YtohlmcebphcokaaEng7
set_option linter.unusedSimpArgs false
set_option linter.unnecessarySimpa false
set_option linter.unusedVariables false
namespace Go.Eng
open Go.RowKit (Below)

def fz0 (h : Nat) (x : D) (s : S) : S :=
  match s with
  | .o h' => bif Nat.beq h' h then .d x else .o h'
  | s => bif S.ok 9 h s then s else .u
def fz (h : Nat) (x : D) (s : S) : S :=
  match s with
  | .g cs => .g (cs.map (fz0 h x))
  | .t cs => .t (cs.map (fz0 h x))
  | s => fz0 h x s
def Mo.fz (h : Nat) (x : D) : Mo → Mo
  | .box cs => .box (cs.map (fz0 h x))
  | m => m
def fzE (h : Nat) (x : D) (e : Env) : Env := e.map fun p => (p.1, fz h x p.2)
def fzM (h : Nat) (x : D) (M : Mem) : Mem := M.map fun p => (p.1, bif Nat.beq p.1 h then .gone else p.2.fz h x)

/-- What a function hands back. -/
inductive RetL (P : Program) (e : Env) (M : Mem) : List ResultVar → List S → Prop
  | nil : RetL P e M [] []
  | tmp {t : Nat} {s : S} {rs : List ResultVar} {l : List S} (h : look e t = some s) (t' : RetL P e M rs l) : RetL P e M (.tmp t :: rs) (s :: l)
  | cellN {c t h : Nat} {cs : List S} {rs : List ResultVar} {l : List S} (hc : look e c = some (.r h 0)) (hM : look M h = some (.box cs)) (ht : vsz P t = some (true, cs.length)) (t' : RetL P e M rs l) : RetL P e M (.cell c t :: rs) (.g cs :: l)
  | cell1 {c t h : Nat} {s : S} {rs : List ResultVar} {l : List S} (hc : look e c = some (.r h 0)) (hM : look M h = some (.box [s])) (ht : vsz P t = some (false, 1)) (t' : RetL P e M rs l) : RetL P e M (.cell c t :: rs) (s :: l)

def rv (tmps : Array Value) : ResultVar → Sem Value
  | .tmp t => pure (tmps.getD t undef)
  | .cell a t => do loadVar t (← asAddr (tmps.getD a undef))

theorem results_rv (fn : Func) (tmps : Array Value) : results fn tmps = (do let vs ← fn.results.mapM (rv tmps); pure (if h : vs.size = 1 then vs[0] else .tuple vs)) := rfl

def one : List S → S
  | [s] => s
  | l => .t l

def Ret (fr : Bool) (w0 : World) (O0 : Nat → Nat) (res : S) : Ending → World → Prop :=
  fun en w' => ∃ x, en = .returned x ∧ Below w0.heap.size w0 w' ∧ RepS (freshO fr O0 w0.heap.size) zH w' x res

def entry : Nat → List S → Env
  | _, [] => []
  | k, s :: l => (k, s) :: entry (k + 1) l

theorem look_entry : ∀ (l : List S) (k n : Nat) (s : S), look (entry k l) n = some s → k ≤ n ∧ l[n - k]? = some s
  | [], k, n, s, h => by simp [entry, look] at h
  | s0 :: l, k, n, s, h => by
    simp only [entry] at h
    rcases look_cons h with ⟨rfl, rfl⟩ | ⟨hne, h⟩
    · exact ⟨Nat.le_refl _, by simp⟩
    · obtain ⟨h1, h2⟩ := look_entry l (k + 1) n s h
      refine ⟨by omega, ?_⟩
      have : n - k = (n - (k + 1)) + 1 := by omega
      rw [this]; simpa using h2

section
variable {P : Program} {N : Nat} {w0 : World} {O0 : Nat → Nat} {ops : Array Oper} {Q : Post} {e : Env} {M : Mem} {rest : List Oper} {o : Oper} {s : S}

theorem RetL.run {O : Nat → Nat} {H : Nat → Value} {a : Act} {w : World} (hst : St N w0 O0 e M O H a w) {rs : List ResultVar} {l : List S} (h : RetL P e M rs l) :
    ∃ vs : List Value, (rs.mapM (rv a.tmps)).run P w = .ok vs w ∧ vs.length = l.length ∧
      ∀ (i : Nat) (x : Value) (s : S), vs[i]? = some x → l[i]? = some s → RepS O H w x s := by
  induction h with
  | nil => exact ⟨[], by simp, rfl, fun i x s h => by simp at h⟩
  | tmp h t' ih =>
    rename_i t s rs l
    obtain ⟨vs, h1, h2, h3⟩ := ih
    obtain ⟨x, hx, hr⟩ := hst.slots _ _ h
    refine ⟨x :: vs, ?_, by simp [h2], fun i y s hy hs => ?_⟩
    · have : (rv a.tmps (.tmp t)).run P w = .ok x w := by simp [rv, Array.getD_eq_getD_getElem?, hx]
      simp only [List.mapM_cons, Sem.run_bind, Sem.run_pure, Result.andThen_ok, h1, this]
    · cases i with
      | zero => simp at hy hs; subst hy; subst hs; exact hr
      | succ i => exact h3 i y s (by simpa using hy) (by simpa using hs)
  | cellN hc hM ht t' ih =>
    rename_i c t h cs rs l
    obtain ⟨vs, h1, h2, h3⟩ := ih
    obtain ⟨x, hx, hr⟩ := hst.slots _ _ hc
    obtain ⟨b, xs, T, hH, _, _, hb, hsz, hcs⟩ := hst.mem h _ hM
    cases hr with
    | r _ b' _ hH' =>
      rw [hH] at hH'
      simp only [Value.pointer.injEq, Option.some.injEq, Addr.mk.injEq, and_true] at hH'
      subst hH'
      have hl := run_loadVarN (P := P) (t := t) (xs := xs.toList) (by simpa [hsz] using ht) (w := w) (b := b) (off := 0) (fun j v hj => cellOf hb (by simpa using hj))
      refine ⟨.agg xs.toList.toArray :: vs, ?_, by simp [h2], fun i y s hy hs => ?_⟩
      · have : (rv a.tmps (.cell c t)).run P w = .ok (.agg xs.toList.toArray) w := by simp only [rv, Array.getD_eq_getD_getElem?, hx, Option.getD_some, asAddr, Sem.run_bind, Sem.run_pure, Result.andThen_ok, hl]
        simp only [List.mapM_cons, Sem.run_bind, Result.andThen_ok, h1, Sem.run_pure, this]
      · cases i with
        | zero =>
          simp only [List.getElem?_cons_zero, Option.some.injEq] at hy hs; subst hy; subst hs
          have : RepC O H w xs cs := ⟨hsz, hcs⟩
          simpa using this.g
        | succ i => exact h3 i y s (by simpa using hy) (by simpa using hs)
  | cell1 hc hM ht t' ih =>
    rename_i c t h s rs l
    obtain ⟨vs, h1, h2, h3⟩ := ih
    obtain ⟨x, hx, hr⟩ := hst.slots _ _ hc
    obtain ⟨b, xs, T, hH, _, _, hb, hsz, hcs⟩ := hst.mem h _ hM
    cases hr with
    | r _ b' _ hH' =>
      rw [hH] at hH'
      simp only [Value.pointer.injEq, Option.some.injEq, Addr.mk.injEq, and_true] at hH'
      subst hH'
      obtain ⟨z, hz, hr, _⟩ := hcs 0 s rfl
      refine ⟨z :: vs, ?_, by simp [h2], fun i y s' hy hs => ?_⟩
      · have : (rv a.tmps (.cell c t)).run P w = .ok z w := by simp only [rv, Array.getD_eq_getD_getElem?, hx, Option.getD_some, asAddr, Sem.run_bind, Sem.run_pure, Result.andThen_ok, run_loadVar1 ht (cellOf hb hz)]
        simp only [List.mapM_cons, Sem.run_bind, Result.andThen_ok, h1, Sem.run_pure, this]
      · cases i with
        | zero => simp at hy hs; subst hy; subst hs; exact hr
        | succ i => exact h3 i y s' (by simpa using hy) (by simpa using hs)

theorem St.viewO {O : Nat → Nat} {H : Nat → Value} {a : Act} {w : World} (hst : St N w0 O0 e M O H a w) {n : Nat} {x : Value} {s s' : S} (hr : RepS O H w x s) (hv : S.view M n s = some s') : RepS (ext O0 w0.heap.size) zH w x s' :=
  RepS.viewG hst.mem (fun b hb => by
    unfold ext
    split
    · exact (hst.lab b (by assumption)).symm.trans hb
    · rfl) (fun b h m _ hB _ => by unfold ext; rw [if_neg (by omega)]) n hr hv

/-- The end of a function. -/
theorem At.ret {fn : Func} {rs : List ResultVar} {l : List S} {s' res : S} (hres : fn.results.toList = rs) (hl : RetL P e M rs l) (hv : S.view M 9 (one l) = some s') (hle : Le s' res) :
    At N w0 O0 e M .ret (bodyPost P fn (Ret false w0 O0 res)) := by
  intro O H a w hst
  obtain ⟨vs, h1, h2, h3⟩ := hl.run hst
  have hrun : (results fn a.tmps).run P w = .ok (if h : vs.toArray.size = 1 then vs.toArray[0] else .tuple vs.toArray) w := by
    rw [results_rv, Array.mapM_eq_mapM_toList, hres]
    simp only [Sem.run_bind, Sem.run_map, h1, Result.andThen_ok, Sem.run_pure]
  refine ⟨hst.df, _, hrun, _, rfl, hst.bl, hle _ _ _ _ (hst.viewO (n := 9) ?_ hv)⟩
  clear hrun hv hl h1
  cases l with
  | nil =>
    cases vs with
    | nil => simpa [one] using RepS.t (O := O) (H := H) (w := w) [] [] rfl h3
    | cons v vs => simp at h2
  | cons s l =>
    cases vs with
    | nil => simp at h2
    | cons v vs =>
      cases l with
      | nil =>
        cases vs with
        | nil => simpa [one] using h3 0 v s rfl rfl
        | cons v2 vs => simp at h2
      | cons s2 l =>
        cases vs with
        | nil => simp at h2
        | cons v2 vs => simpa [one] using RepS.t (O := O) (H := H) (w := w) (v :: v2 :: vs) (s :: s2 :: l) h2 h3

/-- The end of a function whose result is one slice of its own, of flat rows: it lies in new memory. -/
theorem At.retOwn {fn : Func} {t h k T : Nat} {rows : List (List D)} (hres : fn.results.toList = [.tmp t]) (ho : look e t = some (.o h)) (hM : look M h = some (.own k T rows)) (hf : ∀ r, r ∈ rows → ∀ d, d ∈ r → ∃ v, d = .v v) :
    At N w0 O0 e M .ret (bodyPost P fn (Ret true w0 O0 (.d (.s k rows)))) := by
  intro O H a w hst
  obtain ⟨x, hx, hr⟩ := hst.slots _ _ ho
  have hrun : (results fn a.tmps).run P w = .ok x w := by
    have : (rv a.tmps (.tmp t)).run P w = .ok x w := by simp [rv, Array.getD_eq_getD_getElem?, hx]
    rw [results_rv, Array.mapM_eq_mapM_toList, hres]
    simp [this]
  refine ⟨hst.df, _, hrun, _, rfl, hst.bl, ?_⟩
  cases hr with
  | o h h1 =>
    rcases hst.mem h _ hM with ⟨h0, rfl⟩ | ⟨b, cap, xs, hH, hB, hO, hb, hlc, hcm, hsz, hw, hc⟩
    · rw [h0]; exact .d _ _ (.e none 0 k (by simp [maxLen]))
    · rw [hH]
      refine .d _ _ (.s b 0 cap k rows (fun n => (xs[n]?).getD undef) hlc hcm hw (fun _ _ _ _ _ _ => by simp [freshO, Fr, hB]) (fun i r j d hi hj => ?_) (fun i r j d hi hj => ?_))
      · obtain ⟨x, hx, _⟩ := hc i r j d hi hj
        rw [cellOf hb (by rw [Nat.zero_add]; exact hx), hx]; rfl
      · obtain ⟨x, hx, hr, _⟩ := hc i r j d hi hj
        simp only [hx, Option.getD_some]
        obtain ⟨v, rfl⟩ := hf r (List.mem_of_getElem? hi) d (List.mem_of_getElem? hj)
        cases hr with
        | v _ => exact .v _

/-- A function keeps its promise if its body does. -/
theorem Does.of_body {fr : Bool} {f : Nat} {args : List S} {res : S} {fn : Func} {c : Code} (hf : P.funcs[f]? = some fn) (hb : fn.body = some c) (hN : fn.ntmps = N) (hlen : args.length ≤ N)
    (can : ∀ xs w, (callFunc f xs).run P w = .ok (.enter f xs) w) (h : ∀ (w0 : World) (O0 : Nat → Nat), Tr P N w0 O0 (entry 0 args) [] c (bodyPost P fn (Ret fr w0 O0 res))) : Does P fr f args res := by
  refine ⟨can, fun O w xs hl hx => calls_of_wp hf hb (h w O O zH _ w ⟨rfl, ?_, .refl _ _, fun _ _ => rfl, fun n s hs => ?_, fun n s hs => by cases hs⟩)⟩
  · simp; omega
  · obtain ⟨_, hn⟩ := look_entry args 0 n s hs
    simp only [Nat.sub_zero] at hn
    have hlt : n < xs.length := by rw [hl]; exact (List.getElem?_eq_some_iff.1 hn).1
    refine ⟨xs[n], ?_, hx n _ s (List.getElem?_eq_getElem hlt) hn⟩
    rw [Array.getElem?_append_left (by simpa using hlt)]
    simp [hlt]

/-- A slice of the call's own is given up: from here on nobody writes it. -/
theorem freeze_st {h k T : Nat} {rows : List (List D)} (hM : look M h = some (.own k T rows)) {O : Nat → Nat} {H : Nat → Value} {a : Act} {w : World} (hst : St N w0 O0 e M O H a w) :
    ∃ O', St N w0 O0 (fzE h (.s k rows) e) (fzM h (.s k rows) M) O' H a w := by
  obtain ⟨O', hk, hrep, hlab, hother⟩ : ∃ O' : Nat → Nat, Keeps O w O' w ∧ RepD O' w (H h) (.s k rows) ∧ (∀ b, b < w0.heap.size → O' b = O b) ∧ (∀ b h', h' ≠ h → O b = h' + 1 → O' b = h' + 1) := by
    rcases hst.mem h _ hM with ⟨h0, rfl⟩ | ⟨b, cap, xs, hH, hB, hO, hb, hlc, hcm, hsz, hw, hc⟩
    · exact ⟨O, fun _ _ h => ⟨h, rfl⟩, by rw [h0]; exact .e none 0 k (by simp [maxLen]), fun _ _ => rfl, fun _ _ _ h => h⟩
    · refine ⟨fun b' => if b' = b then 0 else O b', fun b' _ h' => ⟨by (by_cases hq : b' = b) <;> simp [hq, h'], rfl⟩, ?_, fun b' hb' => ?_, fun b' h' hne h1 => ?_⟩
      · rw [hH]
        have hkp : Keeps O w (fun b' => if b' = b then 0 else O b') w := fun b' _ h' => ⟨by (by_cases hq : b' = b) <;> simp [hq, h'], rfl⟩
        refine .s b 0 cap k rows (fun n => (xs[n]?).getD undef) hlc hcm hw (fun _ _ _ _ _ _ => by simp) (fun i r j d hi hj => ?_) (fun i r j d hi hj => ?_)
        · obtain ⟨x, hx, _⟩ := hc i r j d hi hj
          rw [cellOf hb (by rw [Nat.zero_add]; exact hx), hx]; rfl
        · obtain ⟨x, hx, hr, _⟩ := hc i r j d hi hj
          simp only [hx, Option.getD_some]; exact hr.mono hkp
      · have : b' ≠ b := by omega
        simp [this]
      · have : b' ≠ b := by intro he; rw [he, hO] at h1; omega
        simp [this, h1]
  have f0 : ∀ (x : Value) (s : S), RepS O H w x s → RepS O' H w x (fz0 h (.s k rows) s) := by
    intro x s hr
    have hd : ∀ s, RepS O H w x s → RepS O' H w x (bif S.ok 9 h s then s else .u) := fun s hr => by
      cases S.ok 9 h s with
      | true => exact hr.keeps hk
      | false => exact .u x
    cases hr with
    | o h' h1 =>
      simp only [fz0]
      cases hb : Nat.beq h' h with
      | true => rw [Nat.eq_of_beq_eq_true hb]; exact .d _ _ hrep
      | false => exact .o h' h1
    | d x y hh => exact hd _ (.d x y hh)
    | g xs ss hl h1 hg => exact hd _ (.g xs ss hl h1 hg)
    | p b off cs y hO hy hr => exact hd _ (.p b off cs y hO hy hr)
    | r h b k hH => exact hd _ (.r h b k hH)
    | q h b k i j len cap hH => exact hd _ (.q h b k i j len cap hH)
    | w h b k lo len L C hH hl => exact hd _ (.w h b k lo len L C hH hl)
    | a x K hK => exact hd _ (.a x K hK)
    | t xs ss hl hg => exact hd _ (.t xs ss hl hg)
    | f fn xs ys fs cs hl hl' hg hg' => exact hd _ (.f fn xs ys fs cs hl hl' hg hg')
    | c a k rows hh => exact hd _ (.c a k rows hh)
    | u => exact hd _ (.u x)
  have f1 : ∀ (x : Value) (s : S), RepS O H w x s → RepS O' H w x (fz h (.s k rows) s) := by
    intro x s hr
    have hr' := hr
    cases hr with
    | g xs ss hl h1 hg =>
      refine .g xs _ (by simpa using hl) h1 fun i x s hx hs => ?_
      simp only [List.getElem?_map, Option.map_eq_some_iff] at hs
      obtain ⟨s', hs', rfl⟩ := hs
      exact f0 x s' (hg i x s' hx hs')
    | t xs ss hl hg =>
      refine .t xs _ (by simpa using hl) fun i x s hx hs => ?_
      simp only [List.getElem?_map, Option.map_eq_some_iff] at hs
      obtain ⟨s', hs', rfl⟩ := hs
      exact f0 x s' (hg i x s' hx hs')
    | d => exact f0 _ _ hr'
    | p => exact f0 _ _ hr'
    | r => exact f0 _ _ hr'
    | o => exact f0 _ _ hr'
    | q => exact f0 _ _ hr'
    | w => exact f0 _ _ hr'
    | a => exact f0 _ _ hr'
    | f => exact f0 _ _ hr'
    | c => exact f0 _ _ hr'
    | u => exact f0 _ _ hr'
  refine ⟨O', hst.df, hst.sz, hst.bl, fun b hb => (hlab b hb).trans (hst.lab b hb), fun n s hs => ?_, fun n m hm => ?_⟩
  · unfold fzE at hs
    rw [look_map (fun _ v => fz h (.s k rows) v)] at hs
    cases hl : look e n with
    | none => simp [hl] at hs
    | some s' =>
      simp only [hl, Option.map_some, Option.some.injEq] at hs
      subst hs
      obtain ⟨x, hx, hr⟩ := hst.slots n s' hl
      exact ⟨x, hx, f1 x s' hr⟩
  · unfold fzM at hm
    rw [look_map (fun d (v : Mo) => bif Nat.beq d h then Mo.gone else v.fz h (.s k rows))] at hm
    cases hl : look M n with
    | none => simp [hl] at hm
    | some m' =>
      simp only [hl, Option.map_some, Option.some.injEq] at hm
      cases hb : Nat.beq n h with
      | true => rw [hb] at hm; subst hm; trivial
      | false =>
        rw [hb] at hm
        simp only [cond_false] at hm
        subst hm
        have hne : n ≠ h := fun he => by rw [he] at hb; simp at hb
        have := hst.mem n m' hl
        cases m' with
        | gone => trivial
        | fr K => exact K.mono _ _ _ _ _ hk this
        | own k' T' rows' =>
          rcases this with ⟨h0, h1⟩ | ⟨b, cap, xs, hH, hB, hO, hb, hlc, hcm, hsz, hw, hc⟩
          · exact .inl ⟨h0, h1⟩
          · exact .inr ⟨b, cap, xs, hH, hB, hother b n hne hO, hb, hlc, hcm, hsz, hw, fun i r j d hi hj => by
              obtain ⟨x, hx, hr, h1⟩ := hc i r j d hi hj
              exact ⟨x, hx, hr.mono hk, h1⟩⟩
        | box cs =>
          obtain ⟨b, xs, T, hH, hB, hO, hb, hsz, hc⟩ := this
          refine ⟨b, xs, T, hH, hB, hother b n hne hO, hb, by simpa using hsz, fun i s hs => ?_⟩
          simp only [List.getElem?_map, Option.map_eq_some_iff] at hs
          obtain ⟨s', hs', rfl⟩ := hs
          obtain ⟨x, hx, hr, h1⟩ := hc i s' hs'
          exact ⟨x, hx, f0 x s' hr, h1⟩

theorem Tr.freeze {c : Code} (h : Nat) {k T : Nat} {rows : List (List D)} (hM : look M h = some (.own k T rows)) (hc : Tr P N w0 O0 (fzE h (.s k rows) e) (fzM h (.s k rows) M) c Q) : Tr P N w0 O0 e M c Q :=
  fun O H a w hst => let ⟨O', h'⟩ := freeze_st hM hst; hc O' H a w h'
theorem TrOps.freeze (h : Nat) {k T : Nat} {rows : List (List D)} (hM : look M h = some (.own k T rows)) (hc : TrOps P N w0 O0 ops Q (fzE h (.s k rows) e) (fzM h (.s k rows) M) rest) : TrOps P N w0 O0 ops Q e M rest :=
  fun O H a w hst => let ⟨O', h'⟩ := freeze_st hM hst; hc O' H a w h'
theorem At.freeze {x : Exit} (h : Nat) {k T : Nat} {rows : List (List D)} (hM : look M h = some (.own k T rows)) (hc : At N w0 O0 (fzE h (.s k rows) e) (fzM h (.s k rows) M) x Q) : At N w0 O0 e M x Q :=
  fun O H a w hst => let ⟨O', h'⟩ := freeze_st hM hst; hc O' H a w h'
end
end Go.Eng
