/- The engine, part 16: variables of the call's own that are written no more; functions that have caught themselves. The engine, part 17: rows of several cells of the call's own, read, written, cleared, cut; callees that write an argument. -/
import Derived.Test.YtohlmcebphcokaaEng15
set_option linter.unusedSimpArgs false
set_option linter.unnecessarySimpa false
set_option linter.unusedVariables false
namespace Go.Eng
open Go.RowKit (Below)

/-- A pointer to a variable that holds a function which has caught this pointer, at the place of the .u of caps. -/
def selfK (F i0 : Nat) (caps : List S) : Kr := {
  q O w x := ∃ (b : Nat) (ys : List Value), x = .pointer (some ⟨b, 0, none⟩) ∧ O b = 0 ∧ w.cell? ⟨b, 0, none⟩ = some (.func (.func F) #[] ys.toArray) ∧ ys.length = caps.length ∧ ys[i0]? = some x ∧ ∀ (i : Nat) (y : Value) (s : S), ys[i]? = some y → caps[i]? = some s → RepS O zH w y s
  mono := fun O w O' w' x hk ⟨b, ys, h1, h2, h3, h4, h6, h5⟩ => ⟨b, ys, h1, (hk b (World.block_lt_of_cell? w _ h3) h2).1, hk.cell h2 h3, h4, h6, fun i y s hy hs => (h5 i y s hy hs).keeps hk⟩ }

theorem OpSem.loadSelf {P : Program} {B : Nat} {o : Oper} {e : Env} {M : Mem} {t : TypeId} {x : Operand} {F i0 : Nat} {caps : List S} (ho : o.op = .load t x) (hx : opS e x = some (.a (selfK F i0 caps))) (ht : vsz P t = some (false, 1)) :
    OpSem P B o e M (.f F [] (caps.set i0 (.a (selfK F i0 caps)))) none :=
  .value fun O H a w hs _ => by
    have hx' := hs x (by simp [ho, Op.operands]) _ hx
    generalize hv : a.eval x = v at hx'
    cases hx' with
    | a _ _ hq =>
      have hq' := hq
      obtain ⟨b, ys, h1, h2, h3, h4, h6, h5⟩ := hq
      refine ⟨.func (.func F) #[] ys.toArray, by rw [h1] at hv; simp [execOp, ho, Instr.loadAt, Instr.sureAddr, hv, run_loadVar1 ht h3], ?_⟩
      refine RepS.f F [] ys [] (caps.set i0 (.a (selfK F i0 caps))) rfl (by simp [h4]) (fun i x s hx => by simp at hx) (fun i y s hy hs => ?_)
      by_cases hi : i0 = i
      · subst hi
        have hlt : i0 < caps.length := by rw [← h4]; exact (List.getElem?_eq_some_iff.1 hy).1
        rw [List.getElem?_set_self hlt] at hs
        rw [h6] at hy
        cases hy; cases hs
        exact .a _ _ hq'
      · rw [List.getElem?_set_ne hi] at hs
        exact (h5 i y s hy hs).anyH H

section
variable {P : Program} {B : Nat} {o : Oper} {e : Env} {M : Mem}
/-- append to a clipped slice, whose result nobody writes. -/
theorem OpSem.appendCF {x y : Operand} {t k T by_ : Nat} {rows rows2 : List (List D)} {zs : List Value} (ho : o.op = .call { callee := .builtin .append, args := #[x, y], argTypes := #[t, t] })
    (hx : opS e x = some (.c k rows)) (hy : opS e y = some (.d (.s k rows2))) (hk : esz P t = some k) (hT : P.elem t = T) (hz : zcells P T = some zs) (hzk : zs.length = k) (hk0 : 0 < k) (hby : P.bytesOf T = by_)
    (hone : ∀ r, r ∈ rows ++ rows2 → r.all D.one = true) (hne : 0 < rows2.length) (hlen : (rows.length + rows2.length) ≤ maxLen) (hroom : (rows.length + rows2.length) * by_ ≤ 140737488355328) :
    OpSem P B o e M (.d (.s k (rows ++ rows2))) none := by
  intro O H a w hB hs hm K hK
  have hr := hs x (by simp [ho, Op.operands, Call.operands]) _ hx
  have hv := hs y (by simp [ho, Op.operands, Call.operands]) _ hy
  generalize hxa : a.eval x = xa at hr
  generalize hya : a.eval y = ya at hv
  obtain ⟨hu, i, hi, hik⟩ := esz_spec hk
  rw [hT] at hu hi
  have hbi : i.bytes = by_ := by simpa [Program.bytesOf, hi] using hby
  obtain ⟨z, hiz, hzc⟩ : ∃ z, i.zero = some z ∧ z.cells = zs.toArray := by
    unfold zcells at hz
    cases hq : i.zero with
    | none => simp [hi, hq] at hz
    | some z => simp [hi, hq] at hz; exact ⟨z, rfl, by rw [← hz]⟩
  have hzz : z.cells.size = k := by rw [hzc]; simpa using hzk
  obtain ⟨a2, c2, rfl, hv2⟩ : ∃ a2 c2, ya = .slice (some a2) rows2.length c2 ∧ RepD O w (.slice (some a2) rows2.length c2) (.s k rows2) := by
    cases hv with
    | d _ _ q => cases q with
      | e => simp at hne
      | s b off c _ _ yv h1 h2 h3 h4 h5 h6 => exact ⟨⟨b, off, none⟩, c, rfl, .s b off c k rows2 yv h1 h2 h3 h4 h5 h6⟩
  obtain ⟨_, news, hn1, hn2⟩ := hv2.cellsL hk0
  -- the rest of the way, from the run on
  have finish : ∀ (x' : Value) (cap : Nat) (vals : List Value), RowsIn O w k vals (rows ++ rows2) → x' = .slice (some ⟨w.heap.size, 0, none⟩) (rows.length + rows2.length) cap → rows.length + rows2.length ≤ cap → cap ≤ maxLen →
      (execOp a.eval o).run P w = .ok (.value x') (w.drew.alloc (.cells (vals.toArray ++ Builtin.zeroCells z.cells (cap - (rows.length + rows2.length))) T)) → o.wp P a w K (fun _ _ _ => False) := by
    intro x' cap vals hvals hx' hc1 hc2 hrun
    unfold Oper.wp
    rw [hrun]
    have hkp : Keeps O w (fun b' => if b' = w.heap.size then 0 else O b') (w.drew.alloc (.cells (vals.toArray ++ Builtin.zeroCells z.cells (cap - (rows.length + rows2.length))) T)) :=
      fun b' hb' hO => ⟨by simp [Nat.ne_of_lt hb', hO], heap_alloc_old w.drew _ hb'⟩
    refine hK (fun b' => if b' = w.heap.size then 0 else O b') H _ x' ⟨fun b' hb' => by simp [Nat.ne_of_lt hb'], fun b' hb' _ => heap_alloc_old w.drew _ hb', fun n hn => rfl⟩
      ⟨rfl, rfl, rfl, by simp, fun b' hb' => heap_alloc_old w.drew _ (by simp; omega)⟩ ?_ (fun h' m he => by cases he)
    refine .d _ _ ?_
    rw [hx']
    have hcl : ∀ (q : Nat) (v : Value), vals[q]? = some v → (w.drew.alloc (.cells (vals.toArray ++ Builtin.zeroCells z.cells (cap - (rows.length + rows2.length))) T)).cell? ⟨w.heap.size, 0 + q, none⟩ = some v := fun q v hv => by
      rw [Nat.zero_add]
      have hlt := (List.getElem?_eq_some_iff.1 hv).1
      have hn := heap_alloc_new w.drew (.cells (vals.toArray ++ Builtin.zeroCells z.cells (cap - (rows.length + rows2.length))) T)
      refine cellOf hn ?_
      rw [Array.getElem?_append_left (by simpa using hlt)]; simpa using hv
    have hla : rows.length + rows2.length = (rows ++ rows2).length := by simp
    generalize hw' : (w.drew.alloc (.cells (vals.toArray ++ Builtin.zeroCells z.cells (cap - (rows.length + rows2.length))) T)) = w' at hkp hcl ⊢
    rw [hla]
    refine .s w.heap.size 0 cap k (rows ++ rows2) (fun q => (vals[q]?).getD undef) (by simpa using hc1) hc2 hvals.2.1 (fun i' r j d hi' hj => by simp) (fun i' r j d hi' hj => ?_) (fun i' r j d hi' hj => ?_)
    · obtain ⟨v, hv, hrep⟩ := hvals.2.2 i' r j d hi' hj
      rw [hv]; exact hcl _ v hv
    · obtain ⟨v, hv, hrep⟩ := hvals.2.2 i' r j d hi' hj
      rw [hv]; exact hrep.mono hkp
  have hnl : news.length = rows2.length * i.size := by rw [hn1.1, hik]
  cases hr with
  | c ad _ _ hrd =>
    cases ad with
    | none =>
      have hr0 : rows = [] := hrd.noneNil rfl
      subst hr0
      simp only [List.length_nil, Nat.zero_add] at hlen hroom
      have hrun := run_append_nil (P := P) w t o.type T i z hu hi hiz a2 rows2.length c2 news hnl hn2 hne (by simp only [maxLen] at hlen; omega) (by rw [hbi]; omega)
      refine finish (.slice (some ⟨w.heap.size, 0, none⟩) rows2.length (grownCap w rows2.length 0 T)) (grownCap w rows2.length 0 T) news (by simpa using hn1) (by simp) (by simpa using grownCap_ge w rows2.length 0 T) (grownCap_le_maxLen w rows2.length 0 T hlen) ?_
      simp [execOp, ho, resolve, invoke, builtin, hxa, hya, hrun]
    | some a1 =>
      obtain ⟨_, olds, ho1, ho2⟩ := hrd.cellsL hk0
      have hrun := run_append_grow (P := P) w t o.type T i z hu hi hiz a1 rows.length rows.length olds (by rw [ho1.1, hik]) ho2 a2 rows2.length c2 news hnl hn2 (by omega) (by simp only [maxLen] at hlen; omega) (growslice_fits (by omega) (by rw [hbi]; exact hroom))
      refine finish (.slice (some ⟨w.heap.size, 0, none⟩) (rows.length + rows2.length) (grownCap w (rows.length + rows2.length) rows.length T)) (grownCap w (rows.length + rows2.length) rows.length T) (olds ++ news) (ho1.app hn1) rfl (grownCap_ge w (rows.length + rows2.length) rows.length T) (grownCap_le_maxLen w (rows.length + rows2.length) rows.length T hlen) ?_
      simp [execOp, ho, resolve, invoke, builtin, hxa, hya, hrun]
end
/-- What is said, when variable h is written no more. -/
def fzb (h : Nat) (f : Nat → S) : Nat → S → S
  | 0, _ => .u
  | n + 1, s => match s with
    | .r h' k => bif Nat.beq h' h then f k else .r h' k
    | .o h' => bif Nat.beq h' h then .u else .o h'
    | .q h' a b c => bif Nat.beq h' h then .u else .q h' a b c
    | .w h' a b c => bif Nat.beq h' h then .u else .w h' a b c
    | .g cs => .g (cs.map (fzb h f n))
    | .t cs => .t (cs.map (fzb h f n))
    | .f fn fs cs => .f fn (fs.map (fzb h f n)) (cs.map (fzb h f n))
    | s => s
theorem fzb_rep {O O' : Nat → Nat} {H : Nat → Value} {w : World} {h : Nat} {f : Nat → S} (hk : Keeps O w O' w) (hf : ∀ (x : Value) (k : Nat), RepS O H w x (.r h k) → RepS O' H w x (f k)) : ∀ (n : Nat) (x : Value) (s : S), RepS O H w x s → RepS O' H w x (fzb h f n s)
  | 0, x, _, _ => .u x
  | n + 1, x, s, hr => by
    have hr' := hr
    cases hr with
    | d x y hh => exact hr'.keeps hk
    | g xs ss hl h1 hg =>
      refine .g xs _ (by simpa using hl) h1 fun i x s hx hs => ?_
      simp only [List.getElem?_map, Option.map_eq_some_iff] at hs
      obtain ⟨s', hs', rfl⟩ := hs
      exact fzb_rep hk hf n x s' (hg i x s' hx hs')
    | p => exact hr'.keeps hk
    | r h' b k hH =>
      simp only [fzb]
      cases hb : Nat.beq h' h with
      | true => have := Nat.eq_of_beq_eq_true hb; subst this; exact hf _ _ hr'
      | false => exact hr'.keeps hk
    | o h' h1 =>
      simp only [fzb]
      cases hb : Nat.beq h' h with
      | true => exact .u _
      | false => exact hr'.keeps hk
    | q h' b k i j len cap hH =>
      simp only [fzb]
      cases hb : Nat.beq h' h with
      | true => exact .u _
      | false => exact hr'.keeps hk
    | t xs ss hl hg =>
      refine .t xs _ (by simpa using hl) fun i x s hx hs => ?_
      simp only [List.getElem?_map, Option.map_eq_some_iff] at hs
      obtain ⟨s', hs', rfl⟩ := hs
      exact fzb_rep hk hf n x s' (hg i x s' hx hs')
    | f fn xs ys fs cs hl hl' hg hg' =>
      refine .f fn xs ys _ _ (by simpa using hl) (by simpa using hl') (fun i x s hx hs => ?_) (fun i x s hx hs => ?_)
      · simp only [List.getElem?_map, Option.map_eq_some_iff] at hs
        obtain ⟨s', hs', rfl⟩ := hs
        exact fzb_rep hk hf n x s' (hg i x s' hx hs')
      · simp only [List.getElem?_map, Option.map_eq_some_iff] at hs
        obtain ⟨s', hs', rfl⟩ := hs
        exact fzb_rep hk hf n x s' (hg' i x s' hx hs')
    | c => exact hr'.keeps hk
    | w h' b k lo len L C hH hl =>
      simp only [fzb]
      cases hb : Nat.beq h' h with
      | true => exact .u _
      | false => exact hr'.keeps hk
    | a => exact hr'.keeps hk
    | u => exact .u _
def Mo.fzb (h : Nat) (f : Nat → S) : Mo → Mo
  | .box cs => .box (cs.map (Go.Eng.fzb h f 9))
  | m => m
def fzbE (h : Nat) (f : Nat → S) (e : Env) : Env := e.map fun p => (p.1, fzb h f 9 p.2)
def fzbM (h : Nat) (f : Nat → S) (M : Mem) : Mem := M.map fun p => (p.1, bif Nat.beq p.1 h then .gone else p.2.fzb h f)

section
variable {P : Program} {N : Nat} {w0 : World} {O0 : Nat → Nat} {Q : Post} {e : Env} {M : Mem}
theorem St.freezeR {O : Nat → Nat} {H : Nat → Value} {a : Act} {w : World} {h : Nat} {cs : List S} {f : Nat → S} (hM : look M h = some (.box cs)) (hst : St N w0 O0 e M O H a w)
    (hf : ∀ b, H h = .pointer (some ⟨b, 0, none⟩) → w0.heap.size ≤ b → O b = h + 1 → MHold O H w0.heap.size w h (.box cs) → ∀ O', (∀ c, O' c = if c = b then 0 else O c) → ∀ (k : Nat), RepS O' H w (.pointer (some ⟨b, k, none⟩)) (f k)) :
    ∃ O', St N w0 O0 (fzbE h f e) (fzbM h f M) O' H a w := by
  have hmh := hst.mem h _ hM
  have hmh' := hmh
  obtain ⟨b, xs, T, hH, hB, hO, hb, hsz, hc⟩ := hmh
  obtain ⟨O', hO'⟩ : ∃ O' : Nat → Nat, O' = fun c => if c = b then 0 else O c := ⟨_, rfl⟩
  have hO'' : ∀ c, O' c = if c = b then 0 else O c := fun c => by rw [hO']
  have hk : Keeps O w O' w := fun c _ h0 => ⟨by rw [hO'']; split; rfl; exact h0, rfl⟩
  have hff := hf b hH hB hO hmh' O' hO''
  have hr : ∀ (n : Nat) (x : Value) (s : S), RepS O H w x s → RepS O' H w x (fzb h f n s) := fzb_rep hk fun x k hr => by
    cases hr with
    | r h' b' k hH' =>
      rw [hH] at hH'
      simp only [Value.pointer.injEq, Option.some.injEq, Addr.mk.injEq, and_true] at hH'
      subst hH'
      exact hff k
  refine ⟨O', hst.df, hst.sz, hst.bl, fun c hc' => ?_, fun n s hs => ?_, fun n m hm => ?_⟩
  · rw [hO'', if_neg (by omega)]; exact hst.lab c hc'
  · unfold fzbE at hs
    rw [look_map (fun _ v => fzb h f 9 v)] at hs
    obtain ⟨s', hs', rfl⟩ := Option.map_eq_some_iff.1 hs
    obtain ⟨x, hx, hrep⟩ := hst.slots n s' hs'
    exact ⟨x, hx, hr 9 x s' hrep⟩
  · unfold fzbM at hm
    rw [look_map (fun (k : Nat) (v : Mo) => bif Nat.beq k h then Mo.gone else Mo.fzb h f v)] at hm
    obtain ⟨m', hm', rfl⟩ := Option.map_eq_some_iff.1 hm
    cases hbq : Nat.beq n h with
    | true => simp [MHold]
    | false =>
      have hne : n ≠ h := fun e => by subst e; simp at hbq
      simp only [cond_false]
      have hold := hst.mem n m' hm'
      cases m' with
      | gone => trivial
      | fr K => exact K.mono _ _ _ _ _ hk hold
      | box cs' =>
        obtain ⟨b1, xs1, T1, g1, g2, g3, g4, g5, g6⟩ := hold
        refine ⟨b1, xs1, T1, g1, g2, ?_, g4, by simpa [Mo.fzb] using g5, fun i s hi => ?_⟩
        · rw [hO'', if_neg (fun e => by subst e; rw [hO] at g3; omega)]; exact g3
        · simp only [List.getElem?_map, Option.map_eq_some_iff] at hi
          obtain ⟨s', hs', rfl⟩ := hi
          obtain ⟨x, hx, hrep, ho⟩ := g6 i s' hs'
          exact ⟨x, hx, hr 9 x s' hrep, ho⟩
      | own k T1 rows =>
        rcases hold with ⟨g1, g2⟩ | ⟨b1, cap, xs1, g1, g2, g3, g4, g5, g6, g7, g8, g9⟩
        · exact .inl ⟨g1, g2⟩
        · refine .inr ⟨b1, cap, xs1, g1, g2, ?_, g4, g5, g6, g7, g8, fun i r j d hi hj => ?_⟩
          · rw [hO'', if_neg (fun e => by subst e; rw [hO] at g3; omega)]; exact g3
          · obtain ⟨x, hx, hrep, ho⟩ := g9 i r j d hi hj
            exact ⟨x, hx, hrep.mono hk, ho⟩
/-- A variable of plain data is written no more. -/
theorem Tr.freezeR {c : Code} (h : Nat) {cs : List S} {ds : List D} (hM : look M h = some (.box cs)) (hd : cs.mapM S.toD = some ds) (hc : Tr P N w0 O0 (fzbE h (fun k => .p (ds.drop k)) e) (fzbM h (fun k => .p (ds.drop k)) M) c Q) : Tr P N w0 O0 e M c Q := by
  intro O H a w hst
  obtain ⟨O', hst'⟩ := hst.freezeR (f := fun k => .p (ds.drop k)) hM (fun b hH hB hO hm O' hO' k => by
    obtain ⟨b', xs, T, hH', hB', hO2, hb, hsz, hcc⟩ := hm
    rw [hH] at hH'
    simp only [Value.pointer.injEq, Option.some.injEq, Addr.mk.injEq, and_true] at hH'
    subst hH'
    obtain ⟨m1, m2⟩ := mapM_some hd
    have hkk : Keeps O w O' w := fun c _ h0 => ⟨by rw [hO']; split; rfl; exact h0, rfl⟩
    have key : ∀ (j : Nat) (d : D), ds[j]? = some d → ∃ x, xs[j]? = some x ∧ RepD O w x d := fun j d hj => by
      have hlt : j < cs.length := by rw [← m1]; exact (List.getElem?_eq_some_iff.1 hj).1
      have h1 := m2 j _ d (List.getElem?_eq_getElem hlt) hj
      obtain ⟨x, hx, hr, _⟩ := hcc j _ (List.getElem?_eq_getElem hlt)
      generalize cs[j] = s at h1 hr
      cases s <;> simp [S.toD] at h1
      subst h1
      cases hr with
      | d _ _ q => exact ⟨x, hx, q⟩
    refine .p b k (ds.drop k) (fun j => (xs[k + j]?).getD undef) (fun j d _ => by rw [hO', if_pos rfl]) (fun j d hj => ?_) (fun j d hj => ?_)
    · rw [List.getElem?_drop] at hj
      obtain ⟨x, hx, _⟩ := key (k + j) d hj
      rw [hx]; exact cellOf hb hx
    · rw [List.getElem?_drop] at hj
      obtain ⟨x, hx, hr⟩ := key (k + j) d hj
      rw [hx]; exact hr.mono hkk)
  exact hc O' H a w hst'
/-- A variable that holds a function which has caught it is written no more. -/
theorem Tr.freezeSelf {c : Code} (h i0 : Nat) {F : Nat} {cs0 caps : List S} (hM : look M h = some (.box [.f F [] cs0])) (hi0 : cs0[i0]? = some (.r h 0)) (hcs : caps = cs0.set i0 .u) (hcaps : (caps.zipIdx.all fun x => Nat.beq x.2 i0 || (match S.view [] 9 x.1 with | some _ => true | none => false)) = true)
    (hview : ∀ (i : Nat) (s s' : S), i ≠ i0 → caps[i]? = some s → S.view [] 9 s = some s' → s' = s)
    (hc : Tr P N w0 O0 (fzbE h (fun k => bif Nat.beq k 0 then .a (selfK F i0 caps) else .u) e) (fzbM h (fun k => bif Nat.beq k 0 then .a (selfK F i0 caps) else .u) M) c Q) : Tr P N w0 O0 e M c Q := by
  intro O H a w hst
  obtain ⟨O', hst'⟩ := hst.freezeR (f := fun k => bif Nat.beq k 0 then .a (selfK F i0 caps) else .u) hM (fun b hH hB hO hm O' hO' k => by
    cases k with
    | succ k => exact .u _
    | zero =>
      obtain ⟨b', xs, T, hH', hB', hO2, hb, hsz, hcc⟩ := hm
      rw [hH] at hH'
      simp only [Value.pointer.injEq, Option.some.injEq, Addr.mk.injEq, and_true] at hH'
      subst hH'
      have hkk : Keeps O w O' w := fun c _ h0 => ⟨by rw [hO']; split; rfl; exact h0, rfl⟩
      obtain ⟨x, hx, hr, _⟩ := hcc 0 _ rfl
      show RepS O' H w _ (.a (selfK F i0 caps))
      refine .a _ _ ?_
      cases hr with
      | f fn us ys fs cs hl hl' hg hg' =>
        have hus : us = [] := List.eq_nil_of_length_eq_zero (by simpa using hl)
        subst hus
        have hlt : i0 < ys.length := by rw [hl']; exact (List.getElem?_eq_some_iff.1 hi0).1
        have hzr := hg' i0 _ (.r h 0) (List.getElem?_eq_getElem hlt) hi0
        have hzv : ys[i0] = .pointer (some ⟨b, 0, none⟩) := by
          generalize ys[i0] = z at hzr
          cases hzr with
          | r h' b1 k hH1 =>
            rw [hH] at hH1
            simp only [Value.pointer.injEq, Option.some.injEq, Addr.mk.injEq, and_true] at hH1
            subst hH1; rfl
        refine ⟨b, ys, rfl, by rw [hO', if_pos rfl], cellOf hb hx, by rw [hcs, List.length_set]; exact hl', by rw [List.getElem?_eq_getElem hlt, hzv], fun i y s hy hs => ?_⟩
        by_cases hi : i = i0
        · subst hi
          rw [hcs, List.getElem?_set_self (by rw [← hl']; exact hlt)] at hs
          cases hs; exact .u _
        · have hs0 : cs0[i]? = some s := by
            rw [hcs, List.getElem?_set_ne (fun e => hi e.symm)] at hs
            exact hs
          have h1 := hg' i y s hy hs0
          have h2 := List.all_eq_true.1 hcaps (s, i) (List.mk_mem_zipIdx_iff_getElem?.2 hs)
          have hbe : Nat.beq i i0 = false := by cases hb : Nat.beq i i0 with
            | false => rfl
            | true => exact (hi (Nat.eq_of_beq_eq_true hb)).elim
          simp only [hbe, Bool.false_or] at h2
          cases hv : S.view [] 9 s with
          | none => rw [hv] at h2; cases h2
          | some s' =>
            have := hview i s s' hi hs hv
            subst this
            exact (RepS.view0 9 h1 hv).keeps hkk)
  exact hc O' H a w hst'
end
end Go.Eng

set_option linter.unusedSimpArgs false
set_option linter.unnecessarySimpa false
set_option linter.unusedVariables false
namespace Go.Eng
open Go.RowKit (Below)

section
variable {P : Program} {B : Nat} {o : Oper} {e : Env} {M : Mem} {s : S}

/-- An element's place in a window. -/
theorem OpSem.idxw {t k h lo len : Nat} {x i : Operand} {kk : IntKind} {n : Int} (ho : o.op = .indexAddr t x i) (hx : opS e x = some (.w h k lo len)) (hi : opS e i = some (.d (.v (.int kk n))))
    (ht : esz P t = some k) (h0 : 0 ≤ n) (h1 : n < len) : OpSem P B o e M (.q h k (lo + n.toNat) 0) none :=
  .value fun O H a w hs hm => by
    have hx' := hs x (by simp [ho, Op.operands]) _ hx
    have hi' := hs i (by simp [ho, Op.operands]) _ hi
    generalize hv : a.eval x = v at hx'
    generalize hu : a.eval i = u at hi'
    cases hi' with
    | d _ _ hi' =>
      cases hi' with
      | v _ =>
        cases hx' with
        | w h b k lo len L C hH hl =>
          refine ⟨.pointer (some ⟨b, (lo + n.toNat) * k + 0, none⟩), ?_, .q h b k (lo + n.toNat) 0 L C hH⟩
          have := run_idx (P := P) (b := b) (off := lo * k) (cap := C - lo) (kk := kk) ht h0 h1 w
          have e1 : lo * k + n.toNat * k = (lo + n.toNat) * k + 0 := by rw [Nat.add_mul]; rfl
          rw [e1] at this
          simp [execOp, ho, hv, hu, this]

theorem OpSem.lenw {x : Operand} {t k h lo len : Nat} (ho : o.op = .call { callee := .builtin .len, args := #[x], argTypes := #[t] }) (hx : opS e x = some (.w h k lo len)) (ht : esz P t = some k) :
    OpSem P B o e M (.d (.v (.int .i64 len))) none :=
  .value fun O H a w hs hm => by
    have hx' := hs x (by simp [ho, Op.operands, Call.operands]) _ hx
    generalize hv : a.eval x = v at hx'
    cases hx' with
    | w h b k lo len L C hH hl =>
      exact ⟨_, by simp [execOp, ho, resolve, invoke, builtin, hv, run_len_slice w t _ _ _ _ (esz_spec ht).1, goInt], .d _ _ (.v _)⟩

/-- A row of the call's own slice, read. -/
theorem OpSem.loadqN {t : TypeId} {x : Operand} {h k T i : Nat} {rows : List (List D)} {r : List D} (ho : o.op = .load t x) (hx : opS e x = some (.q h k i 0)) (hM : look M h = some (.own k T rows))
    (ht : vsz P t = some (true, k)) (hi : rows[i]? = some r) : OpSem P B o e M (.g (r.map .d)) none :=
  .value fun O H a w hs hm => by
    have hr := hs x (by simp [ho, Op.operands]) _ hx
    generalize hv : a.eval x = v at hr
    cases hr with
    | q h b k i j len cap hH =>
      rcases hm h _ hM with ⟨h0, _⟩ | ⟨b', cap', xs, hH', _, _, hb, _, _, hsz, hw, hc⟩
      · rw [h0] at hH; cases hH
      · rw [hH] at hH'
        simp only [Value.slice.injEq, Option.some.injEq, Addr.mk.injEq, and_true] at hH'
        obtain ⟨rfl, _, _⟩ := hH'
        have hrk : r.length = k := hw r (List.mem_of_getElem? hi)
        have key : ∀ j, j < k → ∃ x d, r[j]? = some d ∧ xs[i * k + j]? = some x ∧ RepD O w x d ∧ x.oneCell' = true := fun j hj => by
          have hd := List.getElem?_eq_getElem (l := r) (i := j) (by omega)
          obtain ⟨x, h1, h2, h3⟩ := hc i r j _ hi hd
          exact ⟨x, _, hd, h1, h2, h3⟩
        have hl : ((xs.toList.drop (i * k)).take k).length = k := by
          have : k = 0 ∨ i * k + k ≤ xs.size := by
            by_cases hk0 : k = 0
            · exact .inl hk0
            · obtain ⟨x, d, _, h1, _⟩ := key (k - 1) (by omega)
              have := (Array.getElem?_eq_some_iff.1 h1).1
              exact .inr (by omega)
          rcases this with h | h
          · simp [h]
          · simp; omega
        refine ⟨.agg ((xs.toList.drop (i * k)).take k).toArray, ?_, .g _ _ (by simp [hl, hrk]) (fun z hz => ?_) (fun j z s hz hs => ?_)⟩
        · have := run_loadVarN (P := P) (t := t) (xs := (xs.toList.drop (i * k)).take k) (by rw [hl]; exact ht) (w := w) (b := b) (off := i * k + 0) (fun j v hj => by
            have hjn : j < k := by have := (List.getElem?_eq_some_iff.1 hj).1; omega
            rw [List.getElem?_take_of_lt hjn, List.getElem?_drop] at hj
            exact cellOf hb (by simpa using hj))
          simp only [execOp, ho, Instr.loadAt, Instr.sureAddr, hv]
          simp only [Sem.run_bind, Sem.run_pure, Result.andThen_ok, this]
        · obtain ⟨j, hj⟩ := List.getElem?_of_mem hz
          have hjn : j < k := by have := (List.getElem?_eq_some_iff.1 hj).1; omega
          rw [List.getElem?_take_of_lt hjn, List.getElem?_drop] at hj
          obtain ⟨y, d, _, hy, _, h1⟩ := key j hjn
          have : z = y := by simpa [hy] using hj.symm
          rw [this]; exact h1
        · have hjn : j < k := by have := (List.getElem?_eq_some_iff.1 hz).1; omega
          rw [List.getElem?_take_of_lt hjn, List.getElem?_drop] at hz
          obtain ⟨y, d, hd, hy, hr, _⟩ := key j hjn
          have : z = y := by simpa [hy] using hz.symm
          rw [this]
          rw [List.getElem?_map, hd] at hs
          simp at hs
          subst hs
          exact .d _ _ hr

/-- Cells laid over a row. -/
theorem MHold.setCells {O : Nat → Nat} {H : Nat → Value} {w : World} {h k T b cap lo : Nat} {xs : Array Value} {rows new : List (List D)} {vs : List Value} (hH : H h = .slice (some ⟨b, 0, none⟩) rows.length cap) (hB : B ≤ b) (hO : O b = h + 1) (hb : w.heap[b]? = some (.cells xs T (0, 0))) (hlc : rows.length ≤ cap) (hcm : cap ≤ maxLen) (hsz : xs.size = cap * k)
    (hw : ∀ r, r ∈ rows → r.length = k) (hc : ∀ (i : Nat) (r : List D) (j : Nat) (d : D), rows[i]? = some r → r[j]? = some d → ∃ x, xs[i * k + j]? = some x ∧ RepD O w x d ∧ x.oneCell' = true)
    (hlen : lo + new.length ≤ rows.length) (hvs : vs.length = new.length * k) (hnw : ∀ r, r ∈ new → r.length = k)
    (hn : ∀ (i : Nat) (r : List D) (j : Nat) (d : D), new[i]? = some r → r[j]? = some d → ∃ x, vs[i * k + j]? = some x ∧ RepD O w x d ∧ x.oneCell' = true) (hone : ∀ v, v ∈ vs → v.oneCell' = true) :
    Keep (some h) none O H w O H (w.setRow b (xs.toList.take (lo * k) ++ vs ++ xs.toList.drop (lo * k + vs.length)).toArray) ∧ Below B w (w.setRow b (xs.toList.take (lo * k) ++ vs ++ xs.toList.drop (lo * k + vs.length)).toArray) ∧
      MHold O H B (w.setRow b (xs.toList.take (lo * k) ++ vs ++ xs.toList.drop (lo * k + vs.length)).toArray) h (.own k T (rows.take lo ++ new ++ rows.drop (lo + new.length))) := by
  have hk' := Keep.setRow (O := O) (H := H) (w := w) (cs := (xs.toList.take (lo * k) ++ vs ++ xs.toList.drop (lo * k + vs.length)).toArray) hO
  have hfit : lo * k + vs.length ≤ xs.size := by
    rw [hvs, hsz, ← Nat.add_mul]
    exact Nat.mul_le_mul_right k (by omega)
  have hln : (rows.take lo ++ new ++ rows.drop (lo + new.length)).length = rows.length := by simp; omega
  refine ⟨hk', Below.setRow hB, .inr ⟨b, cap, _, by rw [hln]; exact hH, hB, hO, setRow_heap w b xs _ T _ hb, by rw [hln]; exact hlc, hcm, ?_, fun r hr => ?_, fun i r j d hi hj => ?_⟩⟩
  · simp only [List.size_toArray, List.length_append, List.length_take, List.length_drop, Array.length_toList]
    rw [← hsz]; omega
  · simp only [List.mem_append] at hr
    rcases hr with (hr | hr) | hr
    · exact hw r (List.mem_of_mem_take hr)
    · exact hnw r hr
    · exact hw r (List.mem_of_mem_drop hr)
  · have hrl : r.length = k := by
      have hr := List.mem_of_getElem? hi
      simp only [List.mem_append] at hr
      rcases hr with (hr | hr) | hr
      · exact hw r (List.mem_of_mem_take hr)
      · exact hnw r hr
      · exact hw r (List.mem_of_mem_drop hr)
    have hjk : j < k := by rw [← hrl]; exact (List.getElem?_eq_some_iff.1 hj).1
    have hkeep : Keeps O w O (w.setRow b (xs.toList.take (lo * k) ++ vs ++ xs.toList.drop (lo * k + vs.length)).toArray) := hk'.keeps
    by_cases h1 : i < lo
    · have hi' : rows[i]? = some r := by
        rw [List.append_assoc, List.getElem?_append_left (by simp; omega), List.getElem?_take_of_lt h1] at hi
        exact hi
      obtain ⟨x, hx, hr, ho⟩ := hc i r j d hi' hj
      refine ⟨x, ?_, hr.mono hkeep, ho⟩
      have hlt : i * k + j < lo * k := by
        have := Nat.mul_le_mul_right k (show i + 1 ≤ lo by omega)
        rw [Nat.add_mul] at this
        omega
      have hb2 : i * k + j < xs.size := by omega
      simp only [List.getElem?_toArray]
      rw [List.append_assoc, List.getElem?_append_left (by simp; omega), List.getElem?_take_of_lt hlt]
      simpa using hx
    · by_cases h2 : i < lo + new.length
      · have hi' : new[i - lo]? = some r := by
          rw [List.append_assoc, List.getElem?_append_right (by simp; omega), List.getElem?_append_left (by simp; omega)] at hi
          rw [← hi]; congr 1; simp; omega
        obtain ⟨x, hx, hr, ho⟩ := hn (i - lo) r j d hi' hj
        refine ⟨x, ?_, hr.mono hkeep, ho⟩
        have e1 : i * k + j = lo * k + ((i - lo) * k + j) := by
          rw [← Nat.add_assoc, ← Nat.add_mul]; congr 2; omega
        simp only [List.getElem?_toArray]
        have hxl := (List.getElem?_eq_some_iff.1 hx).1
        rw [e1, List.append_assoc, List.getElem?_append_right (by simp; omega), List.getElem?_append_left (by simp; omega)]
        rw [← hx]; congr 1; simp; omega
      · have hi' : rows[i]? = some r := by
          rw [List.getElem?_append_right (by simp; omega), List.getElem?_drop] at hi
          rw [← hi]; congr 1; simp; omega
        obtain ⟨x, hx, hr, ho⟩ := hc i r j d hi' hj
        refine ⟨x, ?_, hr.mono hkeep, ho⟩
        have hge : lo * k + vs.length ≤ i * k + j := by
          have := Nat.mul_le_mul_right k (show lo + new.length ≤ i by omega)
          rw [Nat.add_mul] at this
          omega
        simp only [List.getElem?_toArray]
        rw [List.getElem?_append_right (by simp; omega), List.getElem?_drop]
        have e2 : lo * k + vs.length + (i * k + j - (List.take (lo * k) xs.toList ++ vs).length) = i * k + j := by simp; omega
        rw [e2]
        simpa using hx

theorem zeroFlat {zs : List Value} {k : Nat} (hzk : zs.length = k) : ∀ n, (List.range (n * k)).map (fun i => zs.toArray[i % k]!) = (List.replicate n zs).flatten
  | 0 => by simp
  | n + 1 => by
    rw [List.replicate_succ, List.flatten_cons, Nat.succ_mul, Nat.add_comm, List.range_add, List.map_append, List.map_map]
    congr 1
    · apply List.ext_getElem?
      intro i
      by_cases hi : i < k
      · simp [hi, hzk, getElem!_def, List.getElem?_eq_getElem (by omega : i < zs.length), Nat.mod_eq_of_lt hi]
      · rw [List.getElem?_eq_none (by simp; omega), List.getElem?_eq_none (by omega)]
    · rw [← zeroFlat hzk n]
      apply List.map_congr_left
      intro i _
      simp

/-- clear of a window. -/
theorem OpSt.clearW {t k T h lo len : Nat} {x : Operand} {rows : List (List D)} {zs : List Value} (ho : o.op = .call { callee := .builtin .clear, args := #[x], argTypes := #[t] }) (hx : opS e x = some (.w h k lo len)) (ht : esz P t = some k)
    (hz : zcells P (P.elem t) = some zs) (h1 : zs.all Value.oneCell' = true) (hzk : zs.length = k) (hk0 : 0 < k) (hlen : lo + len ≤ rows.length) :
    OpSt P B o e h (.own k T rows) (.own k T (rows.take lo ++ List.replicate len (zs.map .v) ++ rows.drop (lo + len))) (.t []) := by
  intro O H a w hB hs hm K hK
  have hx' := hs x (by simp [ho, Op.operands, Call.operands]) _ hx
  generalize hv : a.eval x = v at hx'
  cases hx' with
  | w h b k lo len L C hH hl =>
    have hrunE : (execOp a.eval o).run P w = ((Builtin.clear_ #[t] o.type #[.slice (some ⟨b, lo * k, none⟩) len (C - lo)]).run P w).andThen fun v w' => .ok (.value v) w' := by
      simp [execOp, ho, resolve, invoke, builtin, hv]
    have hrt : RepS O H w (.tuple #[]) (.t []) := .t [] [] rfl (fun i x s h => by simp at h)
    rcases hm with ⟨h0, rfl⟩ | ⟨b', cap, xs, hH', hBb, hO, hb, hlc, hcm, hsz, hw, hc⟩
    · rw [h0] at hH; cases hH
    · rw [hH] at hH'
      simp only [Value.slice.injEq, Option.some.injEq, Addr.mk.injEq, and_true] at hH'
      obtain ⟨rfl, rfl, rfl⟩ := hH'
      unfold Oper.wp
      rw [hrunE]
      by_cases hl0 : len = 0
      · subst hl0
        have : (Builtin.clear_ #[t] o.type #[.slice (some ⟨b, lo * k, none⟩) 0 (C - lo)]).run P w = .ok (.tuple #[]) w := by
          simp [Builtin.clear_, run_underlying (esz_spec ht).1]
        rw [this]
        refine hK w _ (.refl _ _ _ _ _) (.refl _ _) ?_ hrt
        simp only [List.replicate_zero, List.append_nil, Nat.add_zero, List.take_append_drop]
        exact .inr ⟨b, C, xs, hH, hBb, hO, hb, hlc, hcm, hsz, hw, hc⟩
      · obtain ⟨z, hz1, hz2⟩ := run_zero hz w
        have hzc : (Builtin.zeroCells z.cells len).toList = (List.replicate len zs).flatten := by
          rw [hz2]
          unfold Builtin.zeroCells
          simp only [Array.toList_map, Array.toList_range, List.size_toArray]
          rw [hzk]
          exact zeroFlat hzk len
        have hz0 := List.all_eq_true.1 h1
        have hflen : ∀ n, ((List.replicate n zs).flatten).length = n * k := fun n => by simp [hzk]
        have hone : ∀ v, v ∈ (List.replicate len zs).flatten → v.oneCell' = true := fun v hv => by
          rw [List.mem_flatten] at hv
          obtain ⟨l, hl, hvl⟩ := hv
          rw [List.mem_replicate] at hl
          exact hz0 v (hl.2 ▸ hvl)
        obtain ⟨c1, c2, c3⟩ := MHold.setCells (new := List.replicate len (zs.map .v)) (vs := (List.replicate len zs).flatten) (lo := lo) hH hBb hO hb hlc hcm hsz hw hc (by simpa using hlen) (by rw [hflen]; simp) (fun r hr => by rw [List.mem_replicate] at hr; rw [hr.2]; simp [hzk]) (fun i r j d hi hj => by
          rw [List.getElem?_replicate] at hi
          split at hi
          · rename_i hil
            simp only [Option.some.injEq] at hi
            subst hi
            simp only [List.getElem?_map, Option.map_eq_some_iff] at hj
            obtain ⟨v, hv, rfl⟩ := hj
            have hjk : j < k := by rw [← hzk]; exact (List.getElem?_eq_some_iff.1 hv).1
            refine ⟨v, ?_, .v v, hz0 v (List.mem_of_getElem? hv)⟩
            have : ∀ (n i : Nat), i < n → ((List.replicate n zs).flatten)[i * k + j]? = some v := by
              intro n
              induction n with
              | zero => intro i hi; omega
              | succ n ih =>
                intro i hi
                rw [List.replicate_succ, List.flatten_cons]
                cases i with
                | zero => rw [List.getElem?_append_left (by omega)]; simpa using hv
                | succ i =>
                  rw [List.getElem?_append_right (by rw [hzk, Nat.succ_mul]; omega), ← ih i (by omega)]
                  congr 1
                  rw [hzk, Nat.succ_mul]; omega
            exact this len i hil
          · cases hi) hone
        have hfit : lo * k + ((List.replicate len zs).flatten).length ≤ xs.size := by
          rw [hflen, hsz, ← Nat.add_mul]
          exact Nat.mul_le_mul_right k (by omega)
        have hst := run_storeCells_at P b (lo * k) T ((List.replicate len zs).flatten) 0 xs w hb (by simpa using hfit) hone
        have : (Builtin.clear_ #[t] o.type #[.slice (some ⟨b, lo * k, none⟩) len (C - lo)]).run P w = .ok (.tuple #[]) (w.setRow b (xs.toList.take (lo * k) ++ (List.replicate len zs).flatten ++ xs.toList.drop (lo * k + ((List.replicate len zs).flatten).length)).toArray) := by
          simp only [Nat.add_zero] at hst
          simp only [Builtin.clear_]
          simp [run_underlying (esz_spec ht).1, hz1, hzc, hst, hl0]
        rw [this]
        refine hK _ _ c1 c2 ?_ (hrt.mono0 c1)
        simpa using c3
end
end Go.Eng
