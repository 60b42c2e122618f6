/- The engine, part 16: variables of the call's own that are written no more; functions that have caught themselves. -/
import Derived.Test.YtpnmkmgnkdmniaaEng15
set_option linter.unusedSimpArgs false
set_option linter.unnecessarySimpa false
set_option linter.unusedVariables false
namespace Go.Eng
open Go.RowKit (Below)

/-- A pointer to a variable that holds a function which has caught this pointer, at the place of the .u of caps. -/
def selfK (F i0 : Nat) (caps : List S) : Kr := {
  q O w x := ∃ (b : Nat) (ys : List Value), x = .pointer (some ⟨b, 0, none⟩) ∧ O b = 0 ∧ w.cell? ⟨b, 0, none⟩ = some (.func (.func F) #[] ys.toArray) ∧ ys.length = caps.length ∧ ys[i0]? = some x ∧ ∀ (i : Nat) (y : Value) (s : S), ys[i]? = some y → caps[i]? = some s → RepS O zH w y s
  mono := fun O w O' w' x hk ⟨b, ys, h1, h2, h3, h4, h6, h5⟩ => ⟨b, ys, h1, (hk b (World.block_lt_of_cell? w _ h3) h2).1, hk.cell h2 h3, h4, h6, fun i y s hy hs => (h5 i y s hy hs).keeps hk⟩ }

theorem OpSem.loadSelf {P : Program} {B : Nat} {o : Oper} {e : Env} {M : Mem} {t : TypeId} {x : Operand} {F i0 : Nat} {caps : List S} (ho : o.op = .load t x) (hx : opS e x = some (.a (selfK F i0 caps))) (ht : vsz P t = some (false, 1)) :
    OpSem P B o e M (.f F [] (caps.set i0 (.a (selfK F i0 caps)))) none :=
  .value fun O H a w hs _ => by
    have hx' := hs x (by simp [ho, Op.operands]) _ hx
    generalize hv : a.eval x = v at hx'
    cases hx' with
    | a _ _ hq =>
      have hq' := hq
      obtain ⟨b, ys, h1, h2, h3, h4, h6, h5⟩ := hq
      refine ⟨.func (.func F) #[] ys.toArray, by rw [h1] at hv; simp [execOp, ho, Instr.loadAt, Instr.sureAddr, hv, run_loadVar1 ht h3], ?_⟩
      refine RepS.f F [] ys [] (caps.set i0 (.a (selfK F i0 caps))) rfl (by simp [h4]) (fun i x s hx => by simp at hx) (fun i y s hy hs => ?_)
      by_cases hi : i0 = i
      · subst hi
        have hlt : i0 < caps.length := by rw [← h4]; exact (List.getElem?_eq_some_iff.1 hy).1
        rw [List.getElem?_set_self hlt] at hs
        rw [h6] at hy
        cases hy; cases hs
        exact .a _ _ hq'
      · rw [List.getElem?_set_ne hi] at hs
        exact (h5 i y s hy hs).anyH H

section
variable {P : Program} {B : Nat} {o : Oper} {e : Env} {M : Mem}
/-- append to a clipped slice, whose result nobody writes. -/
theorem OpSem.appendCF {x y : Operand} {t k T by_ : Nat} {rows rows2 : List (List D)} {zs : List Value} (ho : o.op = .call { callee := .builtin .append, args := #[x, y], argTypes := #[t, t] })
    (hx : opS e x = some (.c k rows)) (hy : opS e y = some (.d (.s k rows2))) (hk : esz P t = some k) (hT : P.elem t = T) (hz : zcells P T = some zs) (hzk : zs.length = k) (hk0 : 0 < k) (hby : P.bytesOf T = by_)
    (hone : ∀ r, r ∈ rows ++ rows2 → r.all D.one = true) (hne : 0 < rows2.length) (hlen : (rows.length + rows2.length) ≤ maxLen) (hroom : (rows.length + rows2.length) * by_ ≤ 140737488355328) :
    OpSem P B o e M (.d (.s k (rows ++ rows2))) none := by
  intro O H a w hB hs hm K hK
  have hr := hs x (by simp [ho, Op.operands, Call.operands]) _ hx
  have hv := hs y (by simp [ho, Op.operands, Call.operands]) _ hy
  generalize hxa : a.eval x = xa at hr
  generalize hya : a.eval y = ya at hv
  obtain ⟨hu, i, hi, hik⟩ := esz_spec hk
  rw [hT] at hu hi
  have hbi : i.bytes = by_ := by simpa [Program.bytesOf, hi] using hby
  obtain ⟨z, hiz, hzc⟩ : ∃ z, i.zero = some z ∧ z.cells = zs.toArray := by
    unfold zcells at hz
    cases hq : i.zero with
    | none => simp [hi, hq] at hz
    | some z => simp [hi, hq] at hz; exact ⟨z, rfl, by rw [← hz]⟩
  have hzz : z.cells.size = k := by rw [hzc]; simpa using hzk
  obtain ⟨a2, c2, rfl, hv2⟩ : ∃ a2 c2, ya = .slice (some a2) rows2.length c2 ∧ RepD O w (.slice (some a2) rows2.length c2) (.s k rows2) := by
    cases hv with
    | d _ _ q => cases q with
      | e => simp at hne
      | s b off c _ _ yv h1 h2 h3 h4 h5 h6 => exact ⟨⟨b, off, none⟩, c, rfl, .s b off c k rows2 yv h1 h2 h3 h4 h5 h6⟩
  obtain ⟨_, news, hn1, hn2⟩ := hv2.cellsL hk0
  -- the rest of the way, from the run on
  have finish : ∀ (x' : Value) (cap : Nat) (vals : List Value), RowsIn O w k vals (rows ++ rows2) → x' = .slice (some ⟨w.heap.size, 0, none⟩) (rows.length + rows2.length) cap → rows.length + rows2.length ≤ cap → cap ≤ maxLen →
      (execOp a.eval o).run P w = .ok (.value x') (w.drew.alloc (.cells (vals.toArray ++ Builtin.zeroCells z.cells (cap - (rows.length + rows2.length))) T)) → o.wp P a w K (fun _ _ _ => False) := by
    intro x' cap vals hvals hx' hc1 hc2 hrun
    unfold Oper.wp
    rw [hrun]
    have hkp : Keeps O w (fun b' => if b' = w.heap.size then 0 else O b') (w.drew.alloc (.cells (vals.toArray ++ Builtin.zeroCells z.cells (cap - (rows.length + rows2.length))) T)) :=
      fun b' hb' hO => ⟨by simp [Nat.ne_of_lt hb', hO], heap_alloc_old w.drew _ hb'⟩
    refine hK (fun b' => if b' = w.heap.size then 0 else O b') H _ x' ⟨fun b' hb' => by simp [Nat.ne_of_lt hb'], fun b' hb' _ => heap_alloc_old w.drew _ hb', fun n hn => rfl⟩
      ⟨rfl, rfl, rfl, by simp, fun b' hb' => heap_alloc_old w.drew _ (by simp; omega)⟩ ?_ (fun h' m he => by cases he)
    refine .d _ _ ?_
    rw [hx']
    have hcl : ∀ (q : Nat) (v : Value), vals[q]? = some v → (w.drew.alloc (.cells (vals.toArray ++ Builtin.zeroCells z.cells (cap - (rows.length + rows2.length))) T)).cell? ⟨w.heap.size, 0 + q, none⟩ = some v := fun q v hv => by
      rw [Nat.zero_add]
      have hlt := (List.getElem?_eq_some_iff.1 hv).1
      have hn := heap_alloc_new w.drew (.cells (vals.toArray ++ Builtin.zeroCells z.cells (cap - (rows.length + rows2.length))) T)
      refine cellOf hn ?_
      rw [Array.getElem?_append_left (by simpa using hlt)]; simpa using hv
    have hla : rows.length + rows2.length = (rows ++ rows2).length := by simp
    generalize hw' : (w.drew.alloc (.cells (vals.toArray ++ Builtin.zeroCells z.cells (cap - (rows.length + rows2.length))) T)) = w' at hkp hcl ⊢
    rw [hla]
    refine .s w.heap.size 0 cap k (rows ++ rows2) (fun q => (vals[q]?).getD undef) (by simpa using hc1) hc2 hvals.2.1 (fun i' r j d hi' hj => by simp) (fun i' r j d hi' hj => ?_) (fun i' r j d hi' hj => ?_)
    · obtain ⟨v, hv, hrep⟩ := hvals.2.2 i' r j d hi' hj
      rw [hv]; exact hcl _ v hv
    · obtain ⟨v, hv, hrep⟩ := hvals.2.2 i' r j d hi' hj
      rw [hv]; exact hrep.mono hkp
  have hnl : news.length = rows2.length * i.size := by rw [hn1.1, hik]
  cases hr with
  | c ad _ _ hrd =>
    cases ad with
    | none =>
      have hr0 : rows = [] := hrd.noneNil rfl
      subst hr0
      simp only [List.length_nil, Nat.zero_add] at hlen hroom
      have hrun := run_append_nil (P := P) w t o.type T i z hu hi hiz a2 rows2.length c2 news hnl hn2 hne (by simp only [maxLen] at hlen; omega) (by rw [hbi]; omega)
      refine finish (.slice (some ⟨w.heap.size, 0, none⟩) rows2.length (grownCap w rows2.length 0 T)) (grownCap w rows2.length 0 T) news (by simpa using hn1) (by simp) (by simpa using grownCap_ge w rows2.length 0 T) (grownCap_le_maxLen w rows2.length 0 T hlen) ?_
      simp [execOp, ho, resolve, invoke, builtin, hxa, hya, hrun]
    | some a1 =>
      obtain ⟨_, olds, ho1, ho2⟩ := hrd.cellsL hk0
      have hrun := run_append_grow (P := P) w t o.type T i z hu hi hiz a1 rows.length rows.length olds (by rw [ho1.1, hik]) ho2 a2 rows2.length c2 news hnl hn2 (by omega) (by simp only [maxLen] at hlen; omega) (growslice_fits (by omega) (by rw [hbi]; exact hroom))
      refine finish (.slice (some ⟨w.heap.size, 0, none⟩) (rows.length + rows2.length) (grownCap w (rows.length + rows2.length) rows.length T)) (grownCap w (rows.length + rows2.length) rows.length T) (olds ++ news) (ho1.app hn1) rfl (grownCap_ge w (rows.length + rows2.length) rows.length T) (grownCap_le_maxLen w (rows.length + rows2.length) rows.length T hlen) ?_
      simp [execOp, ho, resolve, invoke, builtin, hxa, hya, hrun]
end
/-- What is said, when variable h is written no more. -/
def fzb (h : Nat) (f : Nat → S) : Nat → S → S
  | 0, _ => .u
  | n + 1, s => match s with
    | .r h' k => bif Nat.beq h' h then f k else .r h' k
    | .o h' => bif Nat.beq h' h then .u else .o h'
    | .q h' a b c => bif Nat.beq h' h then .u else .q h' a b c
    | .w h' a b c => bif Nat.beq h' h then .u else .w h' a b c
    | .g cs => .g (cs.map (fzb h f n))
    | .t cs => .t (cs.map (fzb h f n))
    | .f fn fs cs => .f fn (fs.map (fzb h f n)) (cs.map (fzb h f n))
    | s => s
theorem fzb_rep {O O' : Nat → Nat} {H : Nat → Value} {w : World} {h : Nat} {f : Nat → S} (hk : Keeps O w O' w) (hf : ∀ (x : Value) (k : Nat), RepS O H w x (.r h k) → RepS O' H w x (f k)) : ∀ (n : Nat) (x : Value) (s : S), RepS O H w x s → RepS O' H w x (fzb h f n s)
  | 0, x, _, _ => .u x
  | n + 1, x, s, hr => by
    have hr' := hr
    cases hr with
    | d x y hh => exact hr'.keeps hk
    | g xs ss hl h1 hg =>
      refine .g xs _ (by simpa using hl) h1 fun i x s hx hs => ?_
      simp only [List.getElem?_map, Option.map_eq_some_iff] at hs
      obtain ⟨s', hs', rfl⟩ := hs
      exact fzb_rep hk hf n x s' (hg i x s' hx hs')
    | p => exact hr'.keeps hk
    | r h' b k hH =>
      simp only [fzb]
      cases hb : Nat.beq h' h with
      | true => have := Nat.eq_of_beq_eq_true hb; subst this; exact hf _ _ hr'
      | false => exact hr'.keeps hk
    | o h' h1 =>
      simp only [fzb]
      cases hb : Nat.beq h' h with
      | true => exact .u _
      | false => exact hr'.keeps hk
    | q h' b k i j len cap hH =>
      simp only [fzb]
      cases hb : Nat.beq h' h with
      | true => exact .u _
      | false => exact hr'.keeps hk
    | t xs ss hl hg =>
      refine .t xs _ (by simpa using hl) fun i x s hx hs => ?_
      simp only [List.getElem?_map, Option.map_eq_some_iff] at hs
      obtain ⟨s', hs', rfl⟩ := hs
      exact fzb_rep hk hf n x s' (hg i x s' hx hs')
    | f fn xs ys fs cs hl hl' hg hg' =>
      refine .f fn xs ys _ _ (by simpa using hl) (by simpa using hl') (fun i x s hx hs => ?_) (fun i x s hx hs => ?_)
      · simp only [List.getElem?_map, Option.map_eq_some_iff] at hs
        obtain ⟨s', hs', rfl⟩ := hs
        exact fzb_rep hk hf n x s' (hg i x s' hx hs')
      · simp only [List.getElem?_map, Option.map_eq_some_iff] at hs
        obtain ⟨s', hs', rfl⟩ := hs
        exact fzb_rep hk hf n x s' (hg' i x s' hx hs')
    | c => exact hr'.keeps hk
    | w h' b k lo len L C hH hl =>
      simp only [fzb]
      cases hb : Nat.beq h' h with
      | true => exact .u _
      | false => exact hr'.keeps hk
    | a => exact hr'.keeps hk
    | u => exact .u _
def Mo.fzb (h : Nat) (f : Nat → S) : Mo → Mo
  | .box cs => .box (cs.map (Go.Eng.fzb h f 9))
  | m => m
def fzbE (h : Nat) (f : Nat → S) (e : Env) : Env := e.map fun p => (p.1, fzb h f 9 p.2)
def fzbM (h : Nat) (f : Nat → S) (M : Mem) : Mem := M.map fun p => (p.1, bif Nat.beq p.1 h then .gone else p.2.fzb h f)

section
variable {P : Program} {N : Nat} {w0 : World} {O0 : Nat → Nat} {Q : Post} {e : Env} {M : Mem}
theorem St.freezeR {O : Nat → Nat} {H : Nat → Value} {a : Act} {w : World} {h : Nat} {cs : List S} {f : Nat → S} (hM : look M h = some (.box cs)) (hst : St N w0 O0 e M O H a w)
    (hf : ∀ b, H h = .pointer (some ⟨b, 0, none⟩) → w0.heap.size ≤ b → O b = h + 1 → MHold O H w0.heap.size w h (.box cs) → ∀ O', (∀ c, O' c = if c = b then 0 else O c) → ∀ (k : Nat), RepS O' H w (.pointer (some ⟨b, k, none⟩)) (f k)) :
    ∃ O', St N w0 O0 (fzbE h f e) (fzbM h f M) O' H a w := by
  have hmh := hst.mem h _ hM
  have hmh' := hmh
  obtain ⟨b, xs, T, hH, hB, hO, hb, hsz, hc⟩ := hmh
  obtain ⟨O', hO'⟩ : ∃ O' : Nat → Nat, O' = fun c => if c = b then 0 else O c := ⟨_, rfl⟩
  have hO'' : ∀ c, O' c = if c = b then 0 else O c := fun c => by rw [hO']
  have hk : Keeps O w O' w := fun c _ h0 => ⟨by rw [hO'']; split; rfl; exact h0, rfl⟩
  have hff := hf b hH hB hO hmh' O' hO''
  have hr : ∀ (n : Nat) (x : Value) (s : S), RepS O H w x s → RepS O' H w x (fzb h f n s) := fzb_rep hk fun x k hr => by
    cases hr with
    | r h' b' k hH' =>
      rw [hH] at hH'
      simp only [Value.pointer.injEq, Option.some.injEq, Addr.mk.injEq, and_true] at hH'
      subst hH'
      exact hff k
  refine ⟨O', hst.df, hst.sz, hst.bl, fun c hc' => ?_, fun n s hs => ?_, fun n m hm => ?_⟩
  · rw [hO'', if_neg (by omega)]; exact hst.lab c hc'
  · unfold fzbE at hs
    rw [look_map (fun _ v => fzb h f 9 v)] at hs
    obtain ⟨s', hs', rfl⟩ := Option.map_eq_some_iff.1 hs
    obtain ⟨x, hx, hrep⟩ := hst.slots n s' hs'
    exact ⟨x, hx, hr 9 x s' hrep⟩
  · unfold fzbM at hm
    rw [look_map (fun (k : Nat) (v : Mo) => bif Nat.beq k h then Mo.gone else Mo.fzb h f v)] at hm
    obtain ⟨m', hm', rfl⟩ := Option.map_eq_some_iff.1 hm
    cases hbq : Nat.beq n h with
    | true => simp [MHold]
    | false =>
      have hne : n ≠ h := fun e => by subst e; simp at hbq
      simp only [cond_false]
      have hold := hst.mem n m' hm'
      cases m' with
      | gone => trivial
      | box cs' =>
        obtain ⟨b1, xs1, T1, g1, g2, g3, g4, g5, g6⟩ := hold
        refine ⟨b1, xs1, T1, g1, g2, ?_, g4, by simpa [Mo.fzb] using g5, fun i s hi => ?_⟩
        · rw [hO'', if_neg (fun e => by subst e; rw [hO] at g3; omega)]; exact g3
        · simp only [List.getElem?_map, Option.map_eq_some_iff] at hi
          obtain ⟨s', hs', rfl⟩ := hi
          obtain ⟨x, hx, hrep, ho⟩ := g6 i s' hs'
          exact ⟨x, hx, hr 9 x s' hrep, ho⟩
      | own k T1 rows =>
        rcases hold with ⟨g1, g2⟩ | ⟨b1, cap, xs1, g1, g2, g3, g4, g5, g6, g7, g8, g9⟩
        · exact .inl ⟨g1, g2⟩
        · refine .inr ⟨b1, cap, xs1, g1, g2, ?_, g4, g5, g6, g7, g8, fun i r j d hi hj => ?_⟩
          · rw [hO'', if_neg (fun e => by subst e; rw [hO] at g3; omega)]; exact g3
          · obtain ⟨x, hx, hrep, ho⟩ := g9 i r j d hi hj
            exact ⟨x, hx, hrep.mono hk, ho⟩
/-- A variable of plain data is written no more. -/
theorem Tr.freezeR {c : Code} (h : Nat) {cs : List S} {ds : List D} (hM : look M h = some (.box cs)) (hd : cs.mapM S.toD = some ds) (hc : Tr P N w0 O0 (fzbE h (fun k => .p (ds.drop k)) e) (fzbM h (fun k => .p (ds.drop k)) M) c Q) : Tr P N w0 O0 e M c Q := by
  intro O H a w hst
  obtain ⟨O', hst'⟩ := hst.freezeR (f := fun k => .p (ds.drop k)) hM (fun b hH hB hO hm O' hO' k => by
    obtain ⟨b', xs, T, hH', hB', hO2, hb, hsz, hcc⟩ := hm
    rw [hH] at hH'
    simp only [Value.pointer.injEq, Option.some.injEq, Addr.mk.injEq, and_true] at hH'
    subst hH'
    obtain ⟨m1, m2⟩ := mapM_some hd
    have hkk : Keeps O w O' w := fun c _ h0 => ⟨by rw [hO']; split; rfl; exact h0, rfl⟩
    have key : ∀ (j : Nat) (d : D), ds[j]? = some d → ∃ x, xs[j]? = some x ∧ RepD O w x d := fun j d hj => by
      have hlt : j < cs.length := by rw [← m1]; exact (List.getElem?_eq_some_iff.1 hj).1
      have h1 := m2 j _ d (List.getElem?_eq_getElem hlt) hj
      obtain ⟨x, hx, hr, _⟩ := hcc j _ (List.getElem?_eq_getElem hlt)
      generalize cs[j] = s at h1 hr
      cases s <;> simp [S.toD] at h1
      subst h1
      cases hr with
      | d _ _ q => exact ⟨x, hx, q⟩
    refine .p b k (ds.drop k) (fun j => (xs[k + j]?).getD undef) (fun j d _ => by rw [hO', if_pos rfl]) (fun j d hj => ?_) (fun j d hj => ?_)
    · rw [List.getElem?_drop] at hj
      obtain ⟨x, hx, _⟩ := key (k + j) d hj
      rw [hx]; exact cellOf hb hx
    · rw [List.getElem?_drop] at hj
      obtain ⟨x, hx, hr⟩ := key (k + j) d hj
      rw [hx]; exact hr.mono hkk)
  exact hc O' H a w hst'
/-- A variable that holds a function which has caught it is written no more. -/
theorem Tr.freezeSelf {c : Code} (h i0 : Nat) {F : Nat} {cs0 caps : List S} (hM : look M h = some (.box [.f F [] cs0])) (hi0 : cs0[i0]? = some (.r h 0)) (hcs : caps = cs0.set i0 .u) (hcaps : (caps.zipIdx.all fun x => Nat.beq x.2 i0 || (match S.view [] 9 x.1 with | some _ => true | none => false)) = true)
    (hview : ∀ (i : Nat) (s s' : S), i ≠ i0 → caps[i]? = some s → S.view [] 9 s = some s' → s' = s)
    (hc : Tr P N w0 O0 (fzbE h (fun k => bif Nat.beq k 0 then .a (selfK F i0 caps) else .u) e) (fzbM h (fun k => bif Nat.beq k 0 then .a (selfK F i0 caps) else .u) M) c Q) : Tr P N w0 O0 e M c Q := by
  intro O H a w hst
  obtain ⟨O', hst'⟩ := hst.freezeR (f := fun k => bif Nat.beq k 0 then .a (selfK F i0 caps) else .u) hM (fun b hH hB hO hm O' hO' k => by
    cases k with
    | succ k => exact .u _
    | zero =>
      obtain ⟨b', xs, T, hH', hB', hO2, hb, hsz, hcc⟩ := hm
      rw [hH] at hH'
      simp only [Value.pointer.injEq, Option.some.injEq, Addr.mk.injEq, and_true] at hH'
      subst hH'
      have hkk : Keeps O w O' w := fun c _ h0 => ⟨by rw [hO']; split; rfl; exact h0, rfl⟩
      obtain ⟨x, hx, hr, _⟩ := hcc 0 _ rfl
      show RepS O' H w _ (.a (selfK F i0 caps))
      refine .a _ _ ?_
      cases hr with
      | f fn us ys fs cs hl hl' hg hg' =>
        have hus : us = [] := List.eq_nil_of_length_eq_zero (by simpa using hl)
        subst hus
        have hlt : i0 < ys.length := by rw [hl']; exact (List.getElem?_eq_some_iff.1 hi0).1
        have hzr := hg' i0 _ (.r h 0) (List.getElem?_eq_getElem hlt) hi0
        have hzv : ys[i0] = .pointer (some ⟨b, 0, none⟩) := by
          generalize ys[i0] = z at hzr
          cases hzr with
          | r h' b1 k hH1 =>
            rw [hH] at hH1
            simp only [Value.pointer.injEq, Option.some.injEq, Addr.mk.injEq, and_true] at hH1
            subst hH1; rfl
        refine ⟨b, ys, rfl, by rw [hO', if_pos rfl], cellOf hb hx, by rw [hcs, List.length_set]; exact hl', by rw [List.getElem?_eq_getElem hlt, hzv], fun i y s hy hs => ?_⟩
        by_cases hi : i = i0
        · subst hi
          rw [hcs, List.getElem?_set_self (by rw [← hl']; exact hlt)] at hs
          cases hs; exact .u _
        · have hs0 : cs0[i]? = some s := by
            rw [hcs, List.getElem?_set_ne (fun e => hi e.symm)] at hs
            exact hs
          have h1 := hg' i y s hy hs0
          have h2 := List.all_eq_true.1 hcaps (s, i) (List.mk_mem_zipIdx_iff_getElem?.2 hs)
          have hbe : Nat.beq i i0 = false := by cases hb : Nat.beq i i0 with
            | false => rfl
            | true => exact (hi (Nat.eq_of_beq_eq_true hb)).elim
          simp only [hbe, Bool.false_or] at h2
          cases hv : S.view [] 9 s with
          | none => rw [hv] at h2; cases h2
          | some s' =>
            have := hview i s s' hi hs hv
            subst this
            exact (RepS.view0 9 h1 hv).keeps hkk)
  exact hc O' H a w hst'
end
end Go.Eng
