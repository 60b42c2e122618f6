/- The engine, part 2: one operation. -/
import Derived.Test.YtohlmcebphcokaaEng1
set_option linter.unusedSimpArgs false
set_option linter.unnecessarySimpa false
set_option linter.unusedVariables false
namespace Go.Eng
open Go.RowKit (Below)

def opS (e : Env) : Operand → Option S
  | .tmp t => look e t
  | .const v => some (.d (.v v))
  | .func f => some (.f f [] [])
  | .global _ => none

def Slots (a : Act) (O : Nat → Nat) (H : Nat → Value) (w : World) (e : Env) (os : Array Operand) : Prop :=
  ∀ x, x ∈ os → ∀ s, opS e x = some s → RepS O H w (a.eval x) s

def Mems (O : Nat → Nat) (H : Nat → Value) (B : Nat) (w : World) (M : Mem) : Prop := ∀ h m, look M h = some m → MHold O H B w h m

theorem St.slotsAt {N : Nat} {w0 w : World} {O0 : Nat → Nat} {e : Env} {M : Mem} {O : Nat → Nat} {H : Nat → Value} {a : Act} (h : St N w0 O0 e M O H a w) (os : Array Operand) : Slots a O H w e os := by
  intro x _ s hs
  cases x with
  | tmp t =>
    obtain ⟨x, hx, hr⟩ := h.slots t s hs
    simpa [Act.eval, Array.getD_eq_getD_getElem?, hx] using hr
  | const v => simp only [opS, Option.some.injEq] at hs; subst hs; exact .d _ _ (.v v)
  | global g => cases hs
  | func f =>
    simp only [opS, Option.some.injEq] at hs; subst hs
    exact .f f [] [] [] [] rfl rfl (fun i x s h => by simp at h) (fun i x s h => by simp at h)

/-- What one operation that writes nothing old does. -/
def OpSem (P : Program) (B : Nat) (o : Oper) (e : Env) (M : Mem) (s : S) (mo : Option (Nat × Mo)) : Prop :=
  ∀ (O : Nat → Nat) (H : Nat → Value) (a : Act) (w : World), B ≤ w.heap.size → Slots a O H w e o.op.operands → Mems O H B w M →
    ∀ K : Act → World → Prop,
      (∀ (O' : Nat → Nat) (H' : Nat → Value) (w' : World) (x : Value), Keep none (mo.map (·.1)) O H w O' H' w' → Below w.heap.size w w' → RepS O' H' w' x s →
        (∀ h m, mo = some (h, m) → MHold O' H' B w' h m) → K (a.put o.dst x) w') →
      o.wp P a w K (fun _ _ _ => False)

theorem Keep.refl (hb hh : Option Nat) (O : Nat → Nat) (H : Nat → Value) (w : World) : Keep hb hh O H w O H w := ⟨fun _ _ => rfl, fun _ _ _ => rfl, fun _ _ => rfl⟩

/-- An operation that only computes or reads. -/
theorem OpSem.value {P : Program} {B : Nat} {o : Oper} {e : Env} {M : Mem} {s : S}
    (h : ∀ (O : Nat → Nat) (H : Nat → Value) (a : Act) (w : World), Slots a O H w e o.op.operands → Mems O H B w M →
      ∃ x, (execOp a.eval o).run P w = .ok (.value x) w ∧ RepS O H w x s) : OpSem P B o e M s none := by
  intro O H a w hB hs hm K hK
  obtain ⟨x, hx, hr⟩ := h O H a w hs hm
  unfold Oper.wp
  rw [hx]
  exact hK O H w x (.refl _ _ _ _ _) (.refl _ _) hr (fun _ _ h => by cases h)

theorem mem1 (x : Operand) : x ∈ #[x] := by simp
theorem mem21 (x y : Operand) : x ∈ #[x, y] := by simp
theorem mem22 (x y : Operand) : y ∈ #[x, y] := by simp

section
variable {P : Program} {B : Nat} {o : Oper} {e : Env} {M : Mem} {s : S}

theorem OpSem.move {x : Operand} (ho : o.op = .move x ∨ o.op = .assign x) (hx : opS e x = some s) : OpSem P B o e M s none :=
  .value fun O H a w hs _ => by
    rcases ho with ho | ho <;> (refine ⟨a.eval x, ?_, hs x (by simp [ho, Op.operands]) s hx⟩; simp [execOp, ho])

/-- Cells that can be read, one after the other. -/
theorem loadCells_list {w : World} (b off : Nat) (xs : List Value) (h : ∀ (j : Nat) (v : Value), xs[j]? = some v → w.cell? ⟨b, off + j, none⟩ = some v) :
    (loadCells ⟨b, off, none⟩ xs.length).run P w = .ok xs.toArray w :=
  run_loadCells_list w ⟨b, off, none⟩ xs fun j v hv => by rw [Addr.add_lit]; exact h j v hv

/-- How a variable of a type is read: whole (a struct of n cells) or one cell. -/
def vsz (P : Program) (t : TypeId) : Option (Bool × Nat) :=
  match P.info? t, P.underlying t with
  | some i, some d => some ((match d with | .struct _ | .array _ _ => true | _ => false), i.size)
  | _, _ => none

theorem run_isAgg {t : TypeId} {g : Bool} {n : Nat} (h : vsz P t = some (g, n)) (w : World) : (isAgg t).run P w = .ok g w ∧ (sizeOf t).run P w = .ok n w := by
  unfold vsz at h
  cases hi : P.info? t with
  | none => simp [hi] at h
  | some i =>
    cases hu : P.underlying t with
    | none => simp [hi, hu] at h
    | some d =>
      simp only [hi, hu, Option.some.injEq, Prod.mk.injEq] at h
      obtain ⟨h1, h2⟩ := h
      subst h1; subst h2
      constructor
      · cases d <;> simp [isAgg, run_underlying hu]
      · simp [sizeOf, typeInfo, hi]

theorem run_loadVar1 {t : TypeId} {n : Nat} (h : vsz P t = some (false, n)) {w : World} {a : Addr} {v : Value} (hc : w.cell? a = some v) : (loadVar t a).run P w = .ok v w := by
  simp [loadVar, (run_isAgg h w).1, hc]

theorem run_loadVarN {t : TypeId} {xs : List Value} (h : vsz P t = some (true, xs.length)) {w : World} {b off : Nat} (hc : ∀ (j : Nat) (v : Value), xs[j]? = some v → w.cell? ⟨b, off + j, none⟩ = some v) :
    (loadVar t ⟨b, off, none⟩).run P w = .ok (.agg xs.toArray) w := by
  simp [loadVar, (run_isAgg h w).1, (run_isAgg h w).2, loadCells_list b off xs hc]

theorem OpSem.load1 {t : TypeId} {x : Operand} {cs : List D} {d : D} (ho : o.op = .load t x) (hx : opS e x = some (.p cs)) (ht : vsz P t = some (false, 1)) (hd : cs[0]? = some d) :
    OpSem P B o e M (.d d) none :=
  .value fun O H a w hs _ => by
    have hr := hs x (by simp [ho, Op.operands]) _ hx
    generalize hv : a.eval x = v at hr
    cases hr with
    | p b off cs y hO hy hr =>
      have hc := hy 0 d hd
      refine ⟨y 0, ?_, .d _ _ (hr 0 d hd)⟩
      simp only [Nat.add_zero] at hc
      simp [execOp, ho, Instr.loadAt, Instr.sureAddr, hv, run_loadVar1 ht hc]

theorem RepD.one {O : Nat → Nat} {w : World} {x : Value} {d : D} (h : RepD O w x d) : (match d with | .v y => y.oneCell' | .s _ _ => true) = true → x.oneCell' = true := by
  cases h <;> simp [Value.oneCell']

def D.one : D → Bool | .v y => y.oneCell' | .s _ _ => true
theorem RepD.one' {O : Nat → Nat} {w : World} {x : Value} {d : D} (h : RepD O w x d) (hd : d.one = true) : x.oneCell' = true := by
  cases h <;> simp_all [Value.oneCell', D.one]

/-- A whole struct read through a pointer. -/
theorem OpSem.loadN {t : TypeId} {x : Operand} {cs : List D} {n : Nat} (ho : o.op = .load t x) (hx : opS e x = some (.p cs)) (ht : vsz P t = some (true, n)) (hn : n ≤ cs.length)
    (h1 : (cs.take n).all D.one = true) : OpSem P B o e M (.g ((cs.take n).map .d)) none :=
  .value fun O H a w hs _ => by
    have hr := hs x (by simp [ho, Op.operands]) _ hx
    generalize hv : a.eval x = v at hr
    cases hr with
    | p b off cs y hO hy hr =>
      have hcell : ∀ (j : Nat) (v : Value), ((List.range n).map y)[j]? = some v → w.cell? ⟨b, off + j, none⟩ = some v := by
        intro j v hj
        simp only [List.getElem?_map, Option.map_eq_some_iff] at hj
        obtain ⟨j', hj', rfl⟩ := hj
        have hlt : j < n := by have := (List.getElem?_eq_some_iff.1 hj').1; simpa using this
        have : j' = j := by simpa [hlt] using hj'.symm
        subst this
        exact hy j' _ (List.getElem?_eq_getElem (by omega))
      refine ⟨.agg ((List.range n).map y).toArray, ?_, .g _ _ (by simp [hn]) (fun z hz => ?_) (fun i z s hz hs => ?_)⟩
      · have := run_loadVarN (P := P) (t := t) (xs := (List.range n).map y) (by simpa using ht) hcell
        simp [execOp, ho, Instr.loadAt, Instr.sureAddr, hv] at this ⊢
        simp [this]
      · simp only [List.mem_map, List.mem_range] at hz
        obtain ⟨j, hj, rfl⟩ := hz
        have hd := List.getElem?_eq_getElem (l := cs) (i := j) (by omega)
        refine (hr j _ hd).one' ?_
        rw [List.all_eq_true] at h1
        exact h1 _ (List.mem_take_iff_getElem.2 ⟨j, by omega, rfl⟩)
      · simp only [List.getElem?_map, Option.map_eq_some_iff] at hz hs
        obtain ⟨j, hj, rfl⟩ := hz
        obtain ⟨d, hd, rfl⟩ := hs
        have hlt : i < n := by have := (List.getElem?_eq_some_iff.1 hj).1; simpa using this
        have : j = i := by simpa [hlt] using hj.symm
        subst this
        rw [List.getElem?_take_of_lt hlt] at hd
        exact .d _ _ (hr j d hd)

theorem cellOf {w : World} {b : Nat} {xs : Array Value} {T i : Nat} {x : Value} {fz : Nat × Nat} (hb : w.heap[b]? = some (.cells xs T fz)) (hx : xs[i]? = some x) : w.cell? ⟨b, i, none⟩ = some x := by
  simp [World.cell?, hb, hx]

/-- A variable of the call's own, read. -/
theorem OpSem.loadb1 {t : TypeId} {x : Operand} {h k : Nat} {cs : List S} {s : S} (ho : o.op = .load t x) (hx : opS e x = some (.r h k)) (hM : look M h = some (.box cs)) (ht : vsz P t = some (false, 1))
    (hd : cs[k]? = some s) : OpSem P B o e M s none :=
  .value fun O H a w hs hm => by
    have hr := hs x (by simp [ho, Op.operands]) _ hx
    obtain ⟨b, xs, T, hH, _, _, hb, _, hc⟩ := hm h _ hM
    generalize hv : a.eval x = v at hr
    cases hr with
    | r h b' k hH' =>
      rw [hH] at hH'
      simp only [Value.pointer.injEq, Option.some.injEq, Addr.mk.injEq, and_true] at hH'
      subst hH'
      obtain ⟨y, hy, hr, _⟩ := hc k s hd
      exact ⟨y, by simp [execOp, ho, Instr.loadAt, Instr.sureAddr, hv, run_loadVar1 ht (cellOf hb hy)], hr⟩

theorem OpSem.loadbN {t : TypeId} {x : Operand} {h k n : Nat} {cs : List S} (ho : o.op = .load t x) (hx : opS e x = some (.r h k)) (hM : look M h = some (.box cs)) (ht : vsz P t = some (true, n))
    (hn : k + n ≤ cs.length) : OpSem P B o e M (.g ((cs.drop k).take n)) none :=
  .value fun O H a w hs hm => by
    have hr := hs x (by simp [ho, Op.operands]) _ hx
    obtain ⟨b, xs, T, hH, _, _, hb, hsz, hc⟩ := hm h _ hM
    generalize hv : a.eval x = v at hr
    cases hr with
    | r h b' k hH' =>
      rw [hH] at hH'
      simp only [Value.pointer.injEq, Option.some.injEq, Addr.mk.injEq, and_true] at hH'
      subst hH'
      have hl : ((xs.toList.drop k).take n).length = n := by simp; omega
      refine ⟨.agg ((xs.toList.drop k).take n).toArray, ?_, .g _ _ (by simp; omega) (fun z hz => ?_) (fun i z s hz hs => ?_)⟩
      · have := run_loadVarN (P := P) (t := t) (xs := (xs.toList.drop k).take n) (by rw [hl]; exact ht) (w := w) (b := b) (off := k) (fun j v hj => by
          have hjn : j < n := by have := (List.getElem?_eq_some_iff.1 hj).1; omega
          rw [List.getElem?_take_of_lt hjn, List.getElem?_drop] at hj
          exact cellOf hb (by simpa using hj))
        simp only [execOp, ho, Instr.loadAt, Instr.sureAddr, hv]
        simp only [Sem.run_bind, Sem.run_pure, Result.andThen_ok, this]
      · obtain ⟨j, hj⟩ := List.getElem?_of_mem hz
        have hjn : j < n := by have := (List.getElem?_eq_some_iff.1 hj).1; omega
        rw [List.getElem?_take_of_lt hjn, List.getElem?_drop] at hj
        obtain ⟨y, hy, _, h1⟩ := hc (k + j) _ (List.getElem?_eq_getElem (by omega))
        have : z = y := by simpa [hy] using hj.symm
        rw [this]; exact h1
      · have hjn : i < n := by have := (List.getElem?_eq_some_iff.1 hz).1; omega
        rw [List.getElem?_take_of_lt hjn, List.getElem?_drop] at hz hs
        obtain ⟨y, hy, hr, _⟩ := hc (k + i) _ hs
        have : z = y := by simpa [hy] using hz.symm
        rw [this]; exact hr

/-- A cell of the call's own slice, read. -/
theorem OpSem.loadq {t : TypeId} {x : Operand} {h k T i j : Nat} {rows : List (List D)} {r : List D} {d : D} (ho : o.op = .load t x) (hx : opS e x = some (.q h k i j)) (hM : look M h = some (.own k T rows))
    (ht : vsz P t = some (false, 1)) (hi : rows[i]? = some r) (hj : r[j]? = some d) : OpSem P B o e M (.d d) none :=
  .value fun O H a w hs hm => by
    have hr := hs x (by simp [ho, Op.operands]) _ hx
    generalize hv : a.eval x = v at hr
    cases hr with
    | q h b k i j len cap hH =>
      rcases hm h _ hM with ⟨h0, _⟩ | ⟨b', cap', xs, hH', _, _, hb, _, _, _, _, hc⟩
      · rw [h0] at hH; cases hH
      · rw [hH] at hH'
        simp only [Value.slice.injEq, Option.some.injEq, Addr.mk.injEq, and_true] at hH'
        obtain ⟨rfl, _, _⟩ := hH'
        obtain ⟨y, hy, hr, _⟩ := hc i r j d hi hj
        exact ⟨y, by simp [execOp, ho, Instr.loadAt, Instr.sureAddr, hv, run_loadVar1 ht (cellOf hb hy)], .d _ _ hr⟩

/-- Where a field lies. -/
def fof (P : Program) (t : TypeId) (k : Nat) : Option Nat :=
  match P.underlying t with
  | some (.struct fs) => match fs[k]? with
    | some f => match P.info? f.type with
      | some i => if i.size = 0 then none else some f.offset
      | none => none
    | none => none
  | _ => none

theorem run_fieldAt {t k n b off : Nat} (h : fof P t k = some n) (w : World) : (Instr.fieldAt t (.pointer (some ⟨b, off, none⟩)) k).run P w = .ok (.pointer (some ⟨b, off + n, none⟩)) w := by
  unfold fof at h
  cases hu : P.underlying t with
  | none => simp [hu] at h
  | some d =>
    cases d <;> simp only [hu] at h <;> try (cases h; done)
    case struct fs =>
      cases hf : fs[k]? with
      | none => simp [hf] at h
      | some f =>
        cases hi : P.info? f.type with
        | none => simp [hf, hi] at h
        | some i =>
          simp only [hf, hi] at h
          split at h
          · cases h
          · rename_i hz
            simp only [Option.some.injEq] at h
            subst h
            simp [Instr.fieldAt, run_underlying hu, hf, Instr.sureAddr, fieldPlace, sizeOf, typeInfo, hi, hz, Addr.add_lit]

theorem OpSem.fieldp {t k n : Nat} {x : Operand} {cs : List D} (ho : o.op = .fieldAddr t x k) (hx : opS e x = some (.p cs)) (ht : fof P t k = some n) : OpSem P B o e M (.p (cs.drop n)) none :=
  .value fun O H a w hs _ => by
    have hr := hs x (by simp [ho, Op.operands]) _ hx
    generalize hv : a.eval x = v at hr
    cases hr with
    | p b off cs y hO hy hr =>
      refine ⟨.pointer (some ⟨b, off + n, none⟩), by simp [execOp, ho, hv, run_fieldAt ht], .p b (off + n) _ (fun j => y (n + j)) (fun j d hd => ?_) (fun j d hd => ?_) (fun j d hd => ?_)⟩
      · rw [List.getElem?_drop] at hd; exact hO _ d hd
      · rw [List.getElem?_drop] at hd; rw [Nat.add_assoc]; exact hy _ d hd
      · rw [List.getElem?_drop] at hd; exact hr _ d hd

theorem OpSem.fieldr {t k n h m : Nat} {x : Operand} (ho : o.op = .fieldAddr t x k) (hx : opS e x = some (.r h m)) (ht : fof P t k = some n) : OpSem P B o e M (.r h (m + n)) none :=
  .value fun O H a w hs _ => by
    have hr := hs x (by simp [ho, Op.operands]) _ hx
    generalize hv : a.eval x = v at hr
    cases hr with
    | r h b m hH => exact ⟨.pointer (some ⟨b, m + n, none⟩), by simp [execOp, ho, hv, run_fieldAt ht], .r h b _ hH⟩

theorem OpSem.fieldq {t k n h kk i j : Nat} {x : Operand} (ho : o.op = .fieldAddr t x k) (hx : opS e x = some (.q h kk i j)) (ht : fof P t k = some n) : OpSem P B o e M (.q h kk i (j + n)) none :=
  .value fun O H a w hs _ => by
    have hr := hs x (by simp [ho, Op.operands]) _ hx
    generalize hv : a.eval x = v at hr
    cases hr with
    | q h b kk i j len cap hH =>
      exact ⟨.pointer (some ⟨b, i * kk + (j + n), none⟩), by simp [execOp, ho, hv, run_fieldAt ht, Nat.add_assoc], .q h b kk i (j + n) len cap hH⟩

/-- The width of a slice type's elements. -/
def esz (P : Program) (t : TypeId) : Option Nat :=
  match P.underlying t with
  | some (.slice e) => (P.info? e).map (·.size)
  | _ => none

theorem esz_spec {t k : Nat} (h : esz P t = some k) : P.underlying t = some (.slice (P.elem t)) ∧ ∃ i, P.info? (P.elem t) = some i ∧ i.size = k := by
  unfold esz at h
  cases hu : P.underlying t with
  | none => simp [hu] at h
  | some d =>
    cases d <;> simp only [hu] at h <;> try (cases h; done)
    case slice e =>
      have he : P.elem t = e := by simp [Program.elem, hu]
      rw [he]
      cases hi : P.info? e with
      | none => simp [hi] at h
      | some i => exact ⟨rfl, i, rfl, by simpa [hi] using h⟩

theorem run_idx {t k b off len cap : Nat} {kk : IntKind} {n : Int} (h : esz P t = some k) (h0 : 0 ≤ n) (h1 : n < len) (w : World) :
    (Instr.indexAt t (.slice (some ⟨b, off, none⟩) len cap) (.int kk n)).run P w = .ok (.pointer (some ⟨b, off + n.toNat * k, none⟩)) w := by
  obtain ⟨hu, i, hi, rfl⟩ := esz_spec h
  rw [run_indexAt_slice w t _ len cap kk n hu, if_pos ⟨h0, h1⟩]
  simp [sizeOf, typeInfo, hi, Addr.add_lit]

/-- An element's place in a slice that nobody writes. -/
theorem OpSem.idx {t k : Nat} {x i : Operand} {rows : List (List D)} {kk : IntKind} {n : Int} {r : List D} (ho : o.op = .indexAddr t x i) (hx : opS e x = some (.d (.s k rows))) (hi : opS e i = some (.d (.v (.int kk n))))
    (ht : esz P t = some k) (h0 : 0 ≤ n) (hr : rows[n.toNat]? = some r) : OpSem P B o e M (.p r) none :=
  .value fun O H a w hs _ => by
    have hx' := hs x (by simp [ho, Op.operands]) _ hx
    have hi' := hs i (by simp [ho, Op.operands]) _ hi
    have hlt : n.toNat < rows.length := (List.getElem?_eq_some_iff.1 hr).1
    generalize hv : a.eval x = v at hx'
    generalize hu : a.eval i = u at hi'
    cases hi' with
    | d _ _ hi' =>
      cases hi' with
      | v _ =>
        cases hx' with
        | d _ _ hx' =>
          cases hx' with
          | e a' c k hm => simp at hlt
          | s b off c k rows y hc hm hw hO hy hrep =>
            have hl : r.length = k := hw r (List.mem_of_getElem? hr)
            refine ⟨.pointer (some ⟨b, off + n.toNat * k, none⟩), by simp [execOp, ho, hv, hu, run_idx ht h0 (by omega : n < (rows.length : Int))],
              .p b _ r (fun j => y (n.toNat * k + j)) (fun j d hd => hO _ _ _ _ hr hd) (fun j d hd => ?_) (fun j d hd => hrep _ _ _ _ hr hd)⟩
            rw [Nat.add_assoc]; exact hy _ _ _ _ hr hd

def nth {α : Type} [Inhabited α] (l : List α) (n : Int) : α := l.getD n.toNat default

theorem OpSem.idxL {t k : Nat} {x i : Operand} {kk : IntKind} {n : Int} {α : Type} [Inhabited α] {l : List α} {f : α → List D} (ho : o.op = .indexAddr t x i) (hx : opS e x = some (.d (.s k (l.map f)))) (hi : opS e i = some (.d (.v (.int kk n))))
    (ht : esz P t = some k) (h0 : 0 ≤ n) (h1 : n < l.length) : OpSem P B o e M (.p (f (nth l n))) none :=
  OpSem.idx ho hx hi ht h0 (by
    have : n.toNat < l.length := by omega
    simp [nth, this])

/-- An element's place in a slice of the call's own. -/
theorem OpSem.idxo {t k T h : Nat} {x i : Operand} {rows : List (List D)} {kk : IntKind} {n : Int} (ho : o.op = .indexAddr t x i) (hx : opS e x = some (.o h)) (hM : look M h = some (.own k T rows)) (hi : opS e i = some (.d (.v (.int kk n))))
    (ht : esz P t = some k) (h0 : 0 ≤ n) (h1 : n.toNat < rows.length) : OpSem P B o e M (.q h k n.toNat 0) none :=
  .value fun O H a w hs hm => by
    have hx' := hs x (by simp [ho, Op.operands]) _ hx
    have hi' := hs i (by simp [ho, Op.operands]) _ hi
    generalize hv : a.eval x = v at hx'
    generalize hu : a.eval i = u at hi'
    cases hi' with
    | d _ _ hi' =>
      cases hi' with
      | v _ =>
        cases hx' with
        | o h _ =>
          rcases hm h _ hM with ⟨_, h2⟩ | ⟨b', cap', xs, hH', _⟩
          · subst h2; simp at h1
          · refine ⟨.pointer (some ⟨b', n.toNat * k + 0, none⟩), ?_, .q h b' k n.toNat 0 _ _ hH'⟩
            rw [hH'] at hv
            simp [execOp, ho, hv, hu, run_idx ht h0 (by omega : n < (rows.length : Int))]

/-- Numbers: what comes out, at its kind. -/
theorem OpSem.bin {op : BinOp} {t u : TypeId} {x y : Operand} {k : IntKind} {m n : Int} {z : Value} (ho : o.op = .binOp op t x y u) (hx : opS e x = some (.d (.v (.int k m)))) (hy : opS e y = some (.d (.v (.int k n))))
    (hz : binOp op t (.int k m) (.int k n) = pure z) : OpSem P B o e M (.d (.v z)) none :=
  .value fun O H a w hs _ => by
    have hx' := hs x (by simp [ho, Op.operands]) _ hx
    have hy' := hs y (by simp [ho, Op.operands]) _ hy
    generalize hv : a.eval x = v at hx'
    generalize hu : a.eval y = u at hy'
    cases hx' with
    | d _ _ hx' => cases hx' with
      | v _ => cases hy' with
        | d _ _ hy' => cases hy' with
          | v _ => exact ⟨z, by simp [execOp, ho, hv, hu, eqGuard_at_int, hz], .d _ _ (.v z)⟩

theorem OpSem.not {t : TypeId} {x : Operand} {b : Bool} (ho : o.op = .unOp .not t x) (hx : opS e x = some (.d (.v (.bool b)))) : OpSem P B o e M (.d (.v (.bool !b))) none :=
  .value fun O H a w hs _ => by
    have hx' := hs x (by simp [ho, Op.operands]) _ hx
    generalize hv : a.eval x = v at hx'
    cases hx' with
    | d _ _ hx' => cases hx' with
      | v _ => exact ⟨_, by simp [execOp, ho, hv, Op.unary], .d _ _ (.v _)⟩

theorem OpSem.neg {t : TypeId} {x : Operand} {n : Int} (ho : o.op = .unOp .neg t x) (hx : opS e x = some (.d (.v (.int .i64 n)))) (hn : IntKind.i64.wrap (0 - n) = -n) : OpSem P B o e M (.d (.v (.int .i64 (-n)))) none :=
  .value fun O H a w hs _ => by
    have hx' := hs x (by simp [ho, Op.operands]) _ hx
    generalize hv : a.eval x = v at hx'
    cases hx' with
    | d _ _ hx' => cases hx' with
      | v _ => exact ⟨.int .i64 (-n), by simp only [execOp, ho, hv, Op.unary, Op.intArith, hn]; simp, .d _ _ (.v _)⟩

theorem OpSem.pickT {c x y : Operand} {b : Bool} (ho : o.op = .pick c x y) (hc : opS e c = some (.d (.v (.bool b)))) (hb : b = true) (hx : opS e x = some s) : OpSem P B o e M s none :=
  .value fun O H a w hs _ => by
    have hc' := hs c (by simp [ho, Op.operands]) _ hc
    generalize hv : a.eval c = v at hc'
    cases hc' with
    | d _ _ hc' => cases hc' with
      | v _ => subst hb; exact ⟨a.eval x, by simp [execOp, ho, hv, asBool], hs x (by simp [ho, Op.operands]) _ hx⟩
theorem OpSem.pickF {c x y : Operand} {b : Bool} (ho : o.op = .pick c x y) (hc : opS e c = some (.d (.v (.bool b)))) (hb : b = false) (hy : opS e y = some s) : OpSem P B o e M s none :=
  .value fun O H a w hs _ => by
    have hc' := hs c (by simp [ho, Op.operands]) _ hc
    generalize hv : a.eval c = v at hc'
    cases hc' with
    | d _ _ hc' => cases hc' with
      | v _ => subst hb; exact ⟨a.eval y, by simp [execOp, ho, hv, asBool], hs y (by simp [ho, Op.operands]) _ hy⟩

theorem RepD.slice {O : Nat → Nat} {w : World} {x : Value} {k : Nat} {rows : List (List D)} (h : RepD O w x (.s k rows)) : ∃ a c, x = .slice a rows.length c ∧ rows.length ≤ c ∧ c ≤ maxLen := by
  cases h with
  | e a c k hm => exact ⟨a, c, rfl, by simp, hm⟩
  | s b off c k rows y hc hm => exact ⟨_, c, rfl, hc, hm⟩

theorem OpSem.lenL {x : Operand} {t k : Nat} {α : Type} {l : List α} {f : α → List D} (ho : o.op = .call { callee := .builtin .len, args := #[x], argTypes := #[t] }) (hx : opS e x = some (.d (.s k (l.map f)))) (ht : esz P t = some k) :
    OpSem P B o e M (.d (.v (.int .i64 l.length))) none :=
  .value fun O H a w hs _ => by
    have hx' := hs x (by simp [ho, Op.operands, Call.operands]) _ hx
    generalize hv : a.eval x = v at hx'
    cases hx' with
    | d _ _ hx' =>
      obtain ⟨a', c, rfl, _⟩ := hx'.slice
      exact ⟨_, by simp [execOp, ho, resolve, invoke, builtin, hv, run_len_slice w t _ _ _ _ (esz_spec ht).1, goInt], .d _ _ (.v _)⟩

theorem OpSem.len {x : Operand} {t k : Nat} {rows : List (List D)} (ho : o.op = .call { callee := .builtin .len, args := #[x], argTypes := #[t] }) (hx : opS e x = some (.d (.s k rows))) (ht : esz P t = some k) :
    OpSem P B o e M (.d (.v (.int .i64 rows.length))) none :=
  .value fun O H a w hs _ => by
    have hx' := hs x (by simp [ho, Op.operands, Call.operands]) _ hx
    generalize hv : a.eval x = v at hx'
    cases hx' with
    | d _ _ hx' =>
      obtain ⟨a', c, rfl, _⟩ := hx'.slice
      exact ⟨_, by simp [execOp, ho, resolve, invoke, builtin, hv, run_len_slice w t _ _ _ _ (esz_spec ht).1, goInt], .d _ _ (.v _)⟩

theorem OpSem.leno {x : Operand} {t k T h : Nat} {rows : List (List D)} (ho : o.op = .call { callee := .builtin .len, args := #[x], argTypes := #[t] }) (hx : opS e x = some (.o h)) (hM : look M h = some (.own k T rows)) (ht : esz P t = some k) :
    OpSem P B o e M (.d (.v (.int .i64 rows.length))) none :=
  .value fun O H a w hs hm => by
    have hx' := hs x (by simp [ho, Op.operands, Call.operands]) _ hx
    generalize hv : a.eval x = v at hx'
    cases hx' with
    | o h _ =>
      rcases hm h _ hM with ⟨h0, rfl⟩ | ⟨b', cap', xs, hH', _⟩
      · rw [h0] at hv
        exact ⟨_, by simp [execOp, ho, resolve, invoke, builtin, hv, run_len_slice w t _ _ _ _ (esz_spec ht).1, goInt], .d _ _ (.v _)⟩
      · rw [hH'] at hv
        exact ⟨_, by simp [execOp, ho, resolve, invoke, builtin, hv, run_len_slice w t _ _ _ _ (esz_spec ht).1, goInt], .d _ _ (.v _)⟩

theorem OpSem.extract {x : Operand} {n : Nat} {l : List S} (ho : o.op = .extract x n) (hx : opS e x = some (.t l)) (hn : l[n]? = some s) : OpSem P B o e M s none :=
  .value fun O H a w hs _ => by
    have hx' := hs x (by simp [ho, Op.operands]) _ hx
    generalize hv : a.eval x = v at hx'
    cases hx' with
    | t xs ss hl h =>
      have hlt : n < xs.length := by rw [hl]; exact (List.getElem?_eq_some_iff.1 hn).1
      refine ⟨xs[n], ?_, h n _ _ (List.getElem?_eq_getElem hlt) hn⟩
      simp [execOp, ho, hv, Instr.extract, hlt]
end
end Go.Eng
