/- The engine, part 3: operations that make things, and calls. -/
import Derived.Test.YtohlmcebphcokaaEng2
set_option linter.unusedSimpArgs false
set_option linter.unnecessarySimpa false
set_option linter.unusedVariables false
namespace Go.Eng
open Go.RowKit (Below)

def S.cells : S → Option (List S)
  | .g ss => some ss
  | .d x => if x.one then some [.d x] else none
  | .t _ | .a _ | .u => none
  | s => some [s]

theorem RepS.cells {O : Nat → Nat} {H : Nat → Value} {w : World} {x : Value} {s : S} {ss : List S} (h : RepS O H w x s) (hs : s.cells = some ss) :
    x.cells.size = ss.length ∧ ∀ (i : Nat) (s' : S), ss[i]? = some s' → ∃ y, x.cells[i]? = some y ∧ RepS O H w y s' ∧ y.oneCell' = true := by
  have one : ∀ (x : Value), x.oneCell' = true → x.cells = #[x] := by intro x hx; cases x <;> simp_all [Value.cells, Value.oneCell']
  have fin : ∀ (s : S), RepS O H w x s → x.oneCell' = true → ss = [s] → x.cells.size = ss.length ∧ ∀ (i : Nat) (s' : S), ss[i]? = some s' → ∃ y, x.cells[i]? = some y ∧ RepS O H w y s' ∧ y.oneCell' = true := by
    intro s hr h1 he
    subst he
    rw [one x h1]
    refine ⟨rfl, fun i s' hi => ?_⟩
    cases i with
    | zero => simp at hi; subst hi; exact ⟨x, rfl, hr, h1⟩
    | succ i => simp at hi
  have h' := h
  cases h with
  | d x y hd =>
    simp only [S.cells] at hs
    split at hs
    · exact fin _ h' (hd.one' (by assumption)) (by simpa using hs.symm)
    · cases hs
  | g xs ss' hl h1 hg =>
    simp only [S.cells, Option.some.injEq] at hs
    subst hs
    refine ⟨by simp [Value.cells, hl], fun i s' hi => ?_⟩
    have hlt : i < xs.length := by rw [hl]; exact (List.getElem?_eq_some_iff.1 hi).1
    exact ⟨xs[i], by simp [Value.cells, hlt], hg i _ _ (List.getElem?_eq_getElem hlt) hi, h1 _ (List.getElem_mem hlt)⟩
  | p => exact fin _ h' rfl (by simpa [S.cells] using hs.symm)
  | r => exact fin _ h' rfl (by simpa [S.cells] using hs.symm)
  | o h h1 => exact fin _ h' h1 (by simpa [S.cells] using hs.symm)
  | q => exact fin _ h' rfl (by simpa [S.cells] using hs.symm)
  | w => exact fin _ h' rfl (by simpa [S.cells] using hs.symm)
  | a => simp [S.cells] at hs
  | t => simp [S.cells] at hs
  | f => exact fin _ h' rfl (by simpa [S.cells] using hs.symm)
  | c => exact fin _ h' rfl (by simpa [S.cells] using hs.symm)
  | u => simp [S.cells] at hs

theorem Keep.alloc {O : Nat → Nat} {H : Nat → Value} {w : World} (ob : Obj) (h : Nat) (v : Value) :
    Keep none (some h) O H w (fun b => if b = w.heap.size then h + 1 else O b) (fun n => if n = h then v else H n) (w.alloc ob) :=
  ⟨fun b hb => by simp [Nat.ne_of_lt hb], fun b hb _ => Below.heap_alloc w ob b hb, fun n hn => by simp; intro e; subst e; exact (hn rfl).elim⟩

theorem Keep.alloc0 {O : Nat → Nat} {H : Nat → Value} {w : World} (ob : Obj) :
    Keep none none O H w (fun b => if b = w.heap.size then 0 else O b) H (w.alloc ob) :=
  ⟨fun b hb => by simp [Nat.ne_of_lt hb], fun b hb _ => Below.heap_alloc w ob b hb, fun n hn => rfl⟩

theorem heap_new (w : World) (ob : Obj) : (w.alloc ob).heap[w.heap.size]? = some ob := by
  show (w.heap.push ob)[w.heap.size]? = _
  simp

section
variable {P : Program} {B : Nat} {o : Oper} {e : Env} {M : Mem} {s : S}

/-- A new variable that starts as a value. -/
theorem OpSem.box {t : TypeId} {x : Operand} {ss : List S} (h : Nat) (ho : o.op = .box t x) (hx : opS e x = some s) (hs : s.cells = some ss) (hk : ss.all (S.ok 9 h) = true) :
    OpSem P B o e M (.r h 0) (some (h, .box ss)) := by
  intro O H a w hB hsl hm K hK
  have hr := hsl x (by simp [ho, Op.operands]) _ hx
  obtain ⟨hsz, hc⟩ := hr.cells hs
  have hrun : (execOp a.eval o).run P w = .ok (.value (.pointer (some ⟨w.heap.size, 0, none⟩))) (w.alloc (.cells (a.eval x).cells t)) := by
    simp [execOp, ho, Instr.box, newVar, newRow]
  unfold Oper.wp
  rw [hrun]
  refine hK _ _ _ _ (Keep.alloc _ h (.pointer (some ⟨w.heap.size, 0, none⟩))) ((Below.refl _ _).alloc (Nat.le_refl _) _) (.r h w.heap.size 0 (by simp)) (fun h' m he => ?_)
  simp only [Option.some.injEq, Prod.mk.injEq] at he
  obtain ⟨rfl, rfl⟩ := he
  refine ⟨w.heap.size, (a.eval x).cells, t, by simp, hB, by simp, heap_new w _, hsz, fun i s' hi => ?_⟩
  obtain ⟨y, hy, hr', h1⟩ := hc i s' hi
  exact ⟨y, hy, hr'.mono (Keep.alloc _ h _) 9 (fun h' he => by cases he; exact List.all_eq_true.1 hk s' (List.mem_of_getElem? hi)) (.inr (by omega)), h1⟩

/-- The cells of a type's zero value. -/
def zcells (P : Program) (t : TypeId) : Option (List Value) := (P.info? t).bind fun i => i.zero.map fun z => z.cells.toList

theorem run_zero {t : TypeId} {zs : List Value} (h : zcells P t = some zs) (w : World) : ∃ z, (zeroValue t).run P w = .ok z w ∧ z.cells = zs.toArray := by
  unfold zcells at h
  cases hi : P.info? t with
  | none => simp [hi] at h
  | some i =>
    cases hz : i.zero with
    | none => simp [hi, hz] at h
    | some z =>
      simp [hi, hz] at h
      subst h
      exact ⟨z, by simp [zeroValue, typeInfo, hi, hz], by simp⟩

/-- A new variable at its zero. -/
theorem OpSem.alloc {t : TypeId} {zs : List Value} (h : Nat) (ho : o.op = .alloc t) (hz : zcells P t = some zs) (h1 : zs.all Value.oneCell' = true) :
    OpSem P B o e M (.r h 0) (some (h, .box (zs.map fun z => .d (.v z)))) := by
  intro O H a w hB hsl hm K hK
  obtain ⟨z, hz1, hz2⟩ := run_zero hz w
  have hrun : (execOp a.eval o).run P w = .ok (.value (.pointer (some ⟨w.heap.size, 0, none⟩))) (w.alloc (.cells zs.toArray t)) := by
    simp [execOp, ho, Instr.alloc, hz1, newVar, newRow, hz2]
  unfold Oper.wp
  rw [hrun]
  refine hK _ _ _ _ (Keep.alloc _ h (.pointer (some ⟨w.heap.size, 0, none⟩))) ((Below.refl _ _).alloc (Nat.le_refl _) _) (.r h w.heap.size 0 (by simp)) (fun h' m he => ?_)
  simp only [Option.some.injEq, Prod.mk.injEq] at he
  obtain ⟨rfl, rfl⟩ := he
  refine ⟨w.heap.size, zs.toArray, t, by simp, hB, by simp, heap_new w _, by simp, fun i s' hi => ?_⟩
  simp only [List.getElem?_map, Option.map_eq_some_iff] at hi
  obtain ⟨v, hv, rfl⟩ := hi
  exact ⟨v, by simpa using hv, .d _ _ (.v v), by rw [List.all_eq_true] at h1; exact h1 v (List.mem_of_getElem? hv)⟩

/-- Parts of a struct or a row laid over its cells. -/
def fillS (places : Nat → Option (Nat × Nat)) : List S → List (Nat × S) → Option (List S)
  | cells, [] => some cells
  | cells, (i, s) :: rest => match places i, s.cells with
    | some (off, size), some ss => if ss.length = size ∧ off + size ≤ cells.length then fillS places (cells.take off ++ ss ++ cells.drop (off + size)) rest else none
    | _, _ => none

def RepC (O : Nat → Nat) (H : Nat → Value) (w : World) (xs : Array Value) (ss : List S) : Prop :=
  xs.size = ss.length ∧ ∀ (i : Nat) (s : S), ss[i]? = some s → ∃ y, xs[i]? = some y ∧ RepS O H w y s ∧ y.oneCell' = true

theorem foldl_set (off : Nat) : ∀ (l : List Value) (k : Nat) (cs : Array Value), off + k + l.length ≤ cs.size →
    ((l.zipIdx k).foldl (fun cs (p : Value × Nat) => cs.setIfInBounds (off + p.2) p.1) cs).size = cs.size ∧
    ∀ m, ((l.zipIdx k).foldl (fun cs (p : Value × Nat) => cs.setIfInBounds (off + p.2) p.1) cs)[m]? = if off + k ≤ m ∧ m < off + k + l.length then l[m - (off + k)]? else cs[m]?
  | [], k, cs, _ => by
    refine ⟨rfl, fun m => ?_⟩
    rw [if_neg (by simp)]
    rfl
  | v :: l, k, cs, h => by
    simp only [List.length_cons] at h
    have ih := foldl_set off l (k + 1) (cs.setIfInBounds (off + k) v) (by rw [Array.size_setIfInBounds]; omega)
    simp only [List.zipIdx_cons, List.foldl_cons, List.length_cons]
    refine ⟨by simpa using ih.1, fun m => ?_⟩
    rw [ih.2 m]
    by_cases h1 : m = off + k
    · subst h1
      rw [if_neg (by omega), if_pos (by omega)]
      have hlt : off + k < cs.size := by omega
      simp [hlt]
    · by_cases h2 : off + (k + 1) ≤ m ∧ m < off + (k + 1) + l.length
      · rw [if_pos h2, if_pos (by omega)]
        obtain ⟨q, rfl⟩ : ∃ q, m = off + (k + 1) + q := ⟨m - (off + (k + 1)), by omega⟩
        have e1 : off + (k + 1) + q - (off + (k + 1)) = q := by omega
        have e2 : off + (k + 1) + q - (off + k) = q + 1 := by omega
        rw [e1, e2]
        simp
      · rw [if_neg h2, if_neg (by omega), Array.getElem?_setIfInBounds_ne (by omega)]

theorem fill_rep {O : Nat → Nat} {H : Nat → Value} {w : World} {places : Nat → Option (Nat × Nat)} : ∀ (ps : List (Nat × Value)) (pS : List (Nat × S)) (cs : Array Value) (ss out : List S),
    ps.length = pS.length → (∀ (i : Nat) (p : Nat × Value) (q : Nat × S), ps[i]? = some p → pS[i]? = some q → p.1 = q.1 ∧ RepS O H w p.2 q.2) → RepC O H w cs ss → fillS places ss pS = some out →
    ∃ cs', Instr.fill places cs ps = some cs' ∧ RepC O H w cs' out
  | [], [], cs, ss, out, _, _, hc, h => by simp only [fillS, Option.some.injEq] at h; subst h; exact ⟨cs, rfl, hc⟩
  | [], _ :: _, _, _, _, hl, _, _, _ => by simp at hl
  | _ :: _, [], _, _, _, hl, _, _, _ => by simp at hl
  | (i, v) :: ps, (i', s) :: pS, cs, ss, out, hl, hp, hc, h => by
    obtain ⟨h1, h2⟩ := hp 0 _ _ rfl rfl
    simp only at h1 h2
    subst h1
    simp only [fillS] at h
    cases hpl : places i with
    | none => simp [hpl] at h
    | some q =>
      obtain ⟨off, size⟩ := q
      cases hsc : s.cells with
      | none => simp [hpl, hsc] at h
      | some vs =>
        simp only [hpl, hsc] at h
        split at h
        · rename_i hcond
          obtain ⟨hvs, hle⟩ := hcond
          obtain ⟨hz, hcell⟩ := h2.cells hsc
          have hsz : v.cells.size = size := by omega
          obtain ⟨f1, f2⟩ := foldl_set off v.cells.toList 0 cs (by simp; rw [hc.1]; omega)
          have hfold : v.cells.zipIdx.foldl (fun cs (p : Value × Nat) => cs.setIfInBounds (off + p.2) p.1) cs = (v.cells.toList.zipIdx 0).foldl (fun cs (p : Value × Nat) => cs.setIfInBounds (off + p.2) p.1) cs := by
            rw [← Array.foldl_toList]; simp
          have hstep : RepC O H w (v.cells.zipIdx.foldl (fun cs (p : Value × Nat) => cs.setIfInBounds (off + p.2) p.1) cs) (ss.take off ++ vs ++ ss.drop (off + size)) := by
            rw [hfold]
            refine ⟨?_, fun m s' hm => ?_⟩
            · rw [f1, hc.1]; simp; omega
            · rw [f2 m]
              by_cases hin : off + 0 ≤ m ∧ m < off + 0 + v.cells.toList.length
              · rw [if_pos hin]
                have hm' : vs[m - off]? = some s' := by
                  rw [List.append_assoc, List.getElem?_append_right (by simp; omega), List.getElem?_append_left (by simp at hin ⊢; omega)] at hm
                  simpa [Nat.min_eq_left (by omega : off ≤ ss.length)] using hm
                obtain ⟨y, hy, hr, ho⟩ := hcell _ _ hm'
                exact ⟨y, by simpa using hy, hr, ho⟩
              · rw [if_neg hin]
                have hm' : ss[m]? = some s' := by
                  simp only [Array.length_toList, Nat.add_zero] at hin
                  by_cases hlo : m < off
                  · rw [List.append_assoc, List.getElem?_append_left (by simp; omega), List.getElem?_take_of_lt hlo] at hm
                    exact hm
                  · rw [List.getElem?_append_right (by simp; omega), List.getElem?_drop] at hm
                    rw [← hm]
                    congr 1
                    simp
                    omega
                exact hc.2 m s' hm'
          obtain ⟨cs', hcs1, hcs2⟩ := fill_rep ps pS _ _ out (by simpa using hl) (fun j p q hj hq => hp (j + 1) p q (by simpa using hj) (by simpa using hq)) hstep h
          refine ⟨cs', ?_, hcs2⟩
          simp only [Instr.fill, hpl]
          rw [if_neg (by simp only [Bool.or_eq_true, decide_eq_true_eq, not_or, ne_eq, Decidable.not_not]; exact ⟨hsz, by rw [hc.1]; omega⟩)]
          exact hcs1
        · cases h

/-- Where the fields of a struct type lie. -/
def places (P : Program) (t : TypeId) : Option (List (Nat × Nat)) :=
  match P.underlying t with
  | some (.struct fs) => fs.toList.mapM fun f => (P.info? f.type).map fun i => (f.offset, i.size)
  | _ => none

def partsS (e : Env) : List (Nat × Operand) → Option (List (Nat × S))
  | [] => some []
  | (i, x) :: rest => match opS e x, partsS e rest with
    | some s, some l => some ((i, s) :: l)
    | _, _ => none

theorem partsS_rep {O : Nat → Nat} {H : Nat → Value} {w : World} {a : Act} : ∀ (ps : List (Nat × Operand)) (l : List (Nat × S)), partsS e ps = some l → (∀ p, p ∈ ps → ∀ s, opS e p.2 = some s → RepS O H w (a.eval p.2) s) →
    (ps.map fun p => (p.1, a.eval p.2)).length = l.length ∧ ∀ (i : Nat) (p : Nat × Value) (q : Nat × S), (ps.map fun p => (p.1, a.eval p.2))[i]? = some p → l[i]? = some q → p.1 = q.1 ∧ RepS O H w p.2 q.2
  | [], l, h, _ => by simp only [partsS, Option.some.injEq] at h; subst h; exact ⟨rfl, fun i p q h => by simp at h⟩
  | (i, x) :: ps, l, h, hs => by
    simp only [partsS] at h
    cases hx : opS e x with
    | none => simp [hx] at h
    | some s =>
      cases hl : partsS e ps with
      | none => simp [hx, hl] at h
      | some l' =>
        simp only [hx, hl, Option.some.injEq] at h
        subst h
        obtain ⟨ih1, ih2⟩ := partsS_rep ps l' hl (fun p hp => hs p (.tail _ hp))
        refine ⟨by simpa using ih1, fun j p q hj hq => ?_⟩
        cases j with
        | zero =>
          simp at hj hq
          subst hj; subst hq
          exact ⟨rfl, hs (i, x) (.head _) s hx⟩
        | succ j => exact ih2 j p q (by simpa using hj) (by simpa using hq)

theorem RepC.zero {O : Nat → Nat} {H : Nat → Value} {w : World} (zs : List Value) (h1 : zs.all Value.oneCell' = true) : RepC O H w zs.toArray (zs.map fun z => .d (.v z)) :=
  ⟨by simp, fun i s hi => by
    simp only [List.getElem?_map, Option.map_eq_some_iff] at hi
    obtain ⟨v, hv, rfl⟩ := hi
    exact ⟨v, by simpa using hv, .d _ _ (.v v), by rw [List.all_eq_true] at h1; exact h1 v (List.mem_of_getElem? hv)⟩⟩

theorem RepC.g {O : Nat → Nat} {H : Nat → Value} {w : World} {xs : Array Value} {ss : List S} (h : RepC O H w xs ss) : RepS O H w (.agg xs) (.g ss) := by
  have : xs = xs.toList.toArray := by simp
  rw [this]
  refine .g xs.toList ss (by simpa using h.1) (fun x hx => ?_) (fun i x s hx hs => ?_)
  · obtain ⟨i, hi⟩ := List.getElem?_of_mem hx
    have hlt : i < ss.length := by rw [← h.1]; have := (List.getElem?_eq_some_iff.1 hi).1; simpa using this
    obtain ⟨y, hy, _, ho⟩ := h.2 i _ (List.getElem?_eq_getElem hlt)
    have : x = y := by simpa [hy] using hi.symm
    rw [this]; exact ho
  · obtain ⟨y, hy, hr, _⟩ := h.2 i s hs
    have : x = y := by simpa [hy] using hx.symm
    rw [this]; exact hr

theorem OpSem.build {t : TypeId} {ps : Array (Nat × Operand)} {l : List (Nat × S)} {pl : List (Nat × Nat)} {zs : List Value} {ss : List S} (ho : o.op = .build t ps) (hp : partsS e ps.toList = some l) (hpl : places P t = some pl)
    (hz : zcells P t = some zs) (h1 : zs.all Value.oneCell' = true) (hf : fillS (pl[·]?) (zs.map fun z => .d (.v z)) l = some ss) : OpSem P B o e M (.g ss) none :=
  .value fun O H a w hs _ => by
    obtain ⟨q1, q2⟩ := partsS_rep (O := O) (H := H) (w := w) (a := a) ps.toList l hp (fun p hp s hs' => hs p.2 (by simp only [ho, Op.operands]; simpa using ⟨p.1, by simpa using hp⟩) s hs')
    obtain ⟨cs', hcs, hrep⟩ := fill_rep (places := (pl[·]?)) _ l zs.toArray _ ss q1 q2 (RepC.zero zs h1) hf
    obtain ⟨z, hz1, hz2⟩ := run_zero hz w
    refine ⟨.agg cs', ?_, hrep.g⟩
    unfold places at hpl
    cases hu : P.underlying t with
    | none => simp [hu] at hpl
    | some d =>
      cases d <;> simp only [hu] at hpl <;> try (cases hpl; done)
      case struct fields =>
        have hcs2 : Instr.fill (fun x => pl[x]?) zs.toArray (ps.toList.map fun p => (p.1, a.eval p.2)) = some cs' := hcs
        simp [execOp, ho, Instr.build, run_underlying hu, hz1, hz2, Array.mapM_eq_mapM_toList, run_places w _ _ hpl, hcs2]

end
end Go.Eng
