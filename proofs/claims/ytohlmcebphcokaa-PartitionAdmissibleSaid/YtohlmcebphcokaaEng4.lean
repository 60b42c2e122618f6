/- The engine, part 4: rows, calls, equality of structs. -/
import Derived.Test.YtohlmcebphcokaaEng3
set_option linter.unusedSimpArgs false
set_option linter.unnecessarySimpa false
set_option linter.unusedVariables false
namespace Go.Eng
open Go.RowKit (Below)

def S.toD : S → Option D
  | .d x => some x
  | _ => none

/-- n rows of k cells, taken off a list of cells. -/
def rowsOf (k : Nat) : Nat → List S → Option (List (List D))
  | 0, _ => some []
  | n + 1, ss => match (ss.take k).mapM S.toD, rowsOf k n (ss.drop k) with
    | some r, some rs => some (r :: rs)
    | _, _ => none

theorem rowsOf_spec (k : Nat) : ∀ (n : Nat) (ss : List S) (rows : List (List D)), n * k ≤ ss.length → rowsOf k n ss = some rows →
    rows.length = n ∧ (∀ r, r ∈ rows → r.length = k) ∧ ∀ (i : Nat) (r : List D) (j : Nat) (d : D), rows[i]? = some r → r[j]? = some d → ss[i * k + j]? = some (.d d)
  | 0, ss, rows, _, h => by simp only [rowsOf, Option.some.injEq] at h; subst h; exact ⟨rfl, fun r hr => by simp at hr, fun i r j d hi => by simp at hi⟩
  | n + 1, ss, rows, hl, h => by
    simp only [rowsOf] at h
    cases hr : (ss.take k).mapM S.toD with
    | none => simp [hr] at h
    | some r =>
      cases hrs : rowsOf k n (ss.drop k) with
      | none => simp [hr, hrs] at h
      | some rs =>
        simp only [hr, hrs, Option.some.injEq] at h
        subst h
        rw [Nat.succ_mul] at hl
        obtain ⟨i1, i2, i3⟩ := rowsOf_spec k n (ss.drop k) rs (by simp; omega) hrs
        have hm : ∀ (l : List S) (r : List D), l.mapM S.toD = some r → r.length = l.length ∧ ∀ (j : Nat) (d : D), r[j]? = some d → l[j]? = some (.d d) := by
          intro l
          induction l with
          | nil => intro r h; simp at h; subst h; exact ⟨rfl, fun j d h => by simp at h⟩
          | cons s l ih =>
            intro r h
            simp only [List.mapM_cons, Option.bind_eq_bind, Option.pure_def, Option.bind_eq_some_iff, Option.some.injEq] at h
            obtain ⟨d, hd, ds, hds, rfl⟩ := h
            obtain ⟨j1, j2⟩ := ih ds hds
            refine ⟨by simp [j1], fun j d' hj => ?_⟩
            cases j with
            | zero =>
              simp at hj
              subst hj
              cases s <;> simp [S.toD] at hd
              subst hd; rfl
            | succ j => exact j2 j d' (by simpa using hj)
        obtain ⟨m1, m2⟩ := hm _ _ hr
        refine ⟨by simp [i1], fun r' hr' => ?_, fun i r' j d hi hj => ?_⟩
        · rcases List.mem_cons.1 hr' with rfl | hr'
          · rw [m1]; simp; omega
          · exact i2 r' hr'
        · cases i with
          | zero =>
            simp at hi
            subst hi
            have := m2 j d hj
            have hjk : j < k := by
              have h1 := (List.getElem?_eq_some_iff.1 this).1
              simp at h1; omega
            rw [List.getElem?_take_of_lt hjk] at this
            simpa using this
          | succ i =>
            have := i3 i r' j d (by simpa using hi) hj
            rw [List.getElem?_drop] at this
            rw [← this]
            congr 1
            rw [Nat.succ_mul]; omega

section
variable {P : Program} {B : Nat} {o : Oper} {e : Env} {M : Mem} {s : S}

/-- A slice type's elements: their type, width and zero. -/
theorem run_sizeElem {t k : Nat} (h : esz P t = some k) (w : World) : (sizeOf (P.elem t)).run P w = .ok k w := by
  obtain ⟨_, i, hi, rfl⟩ := esz_spec h
  simp [sizeOf, typeInfo, hi]

/-- A row that the text writes out: new memory, of which nothing is written later. -/
theorem OpSem.buildSlice {t k len : Nat} {ps : Array (Nat × Operand)} {l : List (Nat × S)} {zs : List Value} {ss : List S} {rows : List (List D)} (ho : o.op = .buildSlice t len ps) (hp : partsS e ps.toList = some l) (hk : esz P t = some k)
    (hz : zcells P (P.elem t) = some zs) (h1 : zs.all Value.oneCell' = true) (hzk : zs.length = k) (hk0 : 0 < k) (hlen : len * k ≤ 2 ^ 24)
    (hf : fillS (fun i => some (i * k, k)) ((List.replicate len zs).flatten.map fun z => .d (.v z)) l = some ss) (hr : rowsOf k len ss = some rows) : OpSem P B o e M (.d (.s k rows)) none := by
  intro O H a w hB hs hm K hK
  obtain ⟨q1, q2⟩ := partsS_rep (O := O) (H := H) (w := w) (a := a) ps.toList l hp (fun p hp s hs' => hs p.2 (by simp only [ho, Op.operands]; simpa using ⟨p.1, by simpa using hp⟩) s hs')
  have hzz : ∀ (n : Nat), (List.replicate n zs).flatten.all Value.oneCell' = true := by
    intro n
    rw [List.all_eq_true] at h1 ⊢
    intro x hx
    rw [List.mem_flatten] at hx
    obtain ⟨r, hr, hx⟩ := hx
    rw [List.mem_replicate] at hr
    exact h1 x (hr.2 ▸ hx)
  have hz' := RepC.zero (O := O) (H := H) (w := w) ((List.replicate len zs).flatten) (hzz len)
  obtain ⟨cs', hcs, hrep⟩ := fill_rep (places := fun i => some (i * k, k)) _ l _ _ ss q1 q2 hz' hf
  obtain ⟨z, hz1, hz2⟩ := run_zero hz w
  have harr : (Array.range (len * k)).map (fun i => zs.toArray[i % zs.toArray.size]!) = ((List.replicate len zs).flatten).toArray := by
    apply Array.ext'
    simp only [Array.toList_map, Array.toList_range]
    clear hf hz' hcs hrep hlen ho hr
    induction len with
    | zero => simp
    | succ n ih =>
      rw [List.replicate_succ, List.flatten_cons]
      rw [Nat.succ_mul, Nat.add_comm, List.range_add, List.map_append, List.map_map]
      congr 1
      · apply List.ext_getElem?
        intro i
        by_cases hi : i < k
        · simp [hi, Nat.mod_eq_of_lt (by omega : i < zs.length), hzk, getElem!_def, List.getElem?_eq_getElem (by omega : i < zs.length), Nat.mod_eq_of_lt hi]
        · rw [List.getElem?_eq_none (by simp; omega), List.getElem?_eq_none (by omega)]
      · rw [← ih]
        apply List.map_congr_left
        intro i _
        simp [hzk]
  have hfill : Instr.fill (fun i => some (i * k, k)) ((Array.range (len * k)).map (fun i => zs.toArray[i % zs.toArray.size]!)) (ps.toList.map fun p => (p.1, a.eval p.2)) = some cs' := by rw [harr]; exact hcs
  have hfill' : Instr.fill (fun i => some (i * k, k)) ((Array.range (len * k)).map (fun i => z.cells[i % z.cells.size]!)) (ps.toList.map fun p => (p.1, a.eval p.2)) = some cs' := by rw [hz2]; exact hfill
  have hu := (esz_spec hk).1
  have hrun : (execOp a.eval o).run P w = .ok (.value (.slice (some ⟨w.heap.size, 0, none⟩) len len)) (w.alloc (.cells cs' (P.elem t))) := by
    by_cases hl0 : len * k = 0
    · have hl : len = 0 := by rcases Nat.mul_eq_zero.1 hl0 with h | h; exact h; omega
      subst hl
      simp only [Nat.zero_mul, Array.range_zero', Array.map_empty] at hfill
      simp [execOp, ho, Instr.buildSlice, run_underlying hu, run_sizeElem hk, hl0, newRow, hfill, Array.range_zero']
    · skip
      have h24 : ¬ 16777216 < len * k := by simpa using hlen
      simp [execOp, ho, Instr.buildSlice, run_underlying hu, run_sizeElem hk, hl0, hz1, newRow, hfill', h24]
  unfold Oper.wp
  rw [hrun]
  have hkeep := Keep.alloc0 (O := O) (H := H) (w := w) (.cells cs' (P.elem t))
  have hss : len * k ≤ ss.length := by
    rw [← hrep.1]
    have : cs'.size = ((List.replicate len zs).flatten.map fun z => S.d (.v z)).length := by
      have hfs : ∀ (l : List (Nat × S)) (c o : List S), fillS (fun i => some (i * k, k)) c l = some o → o.length = c.length := by
        intro l
        induction l with
        | nil => intro c o h; simp only [fillS, Option.some.injEq] at h; rw [h]
        | cons p l ih =>
          intro c o h
          obtain ⟨i, s⟩ := p
          simp only [fillS] at h
          split at h
          · split at h
            · rename_i hq _ hcond
              simp only [Option.some.injEq, Prod.mk.injEq] at hq
              obtain ⟨rfl, rfl⟩ := hq
              rw [ih _ _ h]; simp; omega
            · cases h
          · cases h
      rw [hrep.1]; exact hfs _ _ _ hf
    rw [this]; simp [hzk]
  obtain ⟨r1, r2, r3⟩ := rowsOf_spec k len ss rows hss hr
  have hcell : ∀ (i : Nat) (r : List D) (j : Nat) (d : D), rows[i]? = some r → r[j]? = some d → ∃ y, cs'[i * k + j]? = some y ∧ RepD O w y d := by
    intro i r j d hi hj
    obtain ⟨y, hy, hr', _⟩ := hrep.2 _ _ (r3 i r j d hi hj)
    cases hr' with
    | d _ _ hd => exact ⟨y, hy, hd⟩
  refine hK _ _ _ _ hkeep ((Below.refl _ _).alloc (Nat.le_refl _) _) (.d _ _ ?_) (fun h m he => by cases he)
  rw [← r1]
  refine .s w.heap.size 0 rows.length k rows (fun n => (cs'[n]?).getD undef) (Nat.le_refl _) (by rw [r1]; simp only [maxLen]; have := Nat.le_mul_of_pos_right len hk0; omega) r2 (fun _ _ _ _ _ _ => by simp) (fun i r j d hi hj => ?_) (fun i r j d hi hj => ?_)
  · obtain ⟨y, hy, _⟩ := hcell i r j d hi hj
    rw [cellOf (heap_new w _) (by rw [Nat.zero_add]; exact hy)]
    simp [hy]
  · obtain ⟨y, hy, hr'⟩ := hcell i r j d hi hj
    simp only [hy, Option.getD_some]
    exact hr'.mono hkeep.keeps

/-- make([]T, n): a slice of the call's own, at zero. -/
theorem OpSem.makeSlice {t k : Nat} {x y : Operand} {n : Int} {zs : List Value} {by_ : Nat} (h : Nat) (ho : o.op = .makeSlice t x y) (hx : opS e x = some (.d (.v (.int .i64 n)))) (hy : opS e y = some (.d (.v (.int .i64 n)))) (hk : esz P t = some k)
    (hz : zcells P (P.elem t) = some zs) (h1 : zs.all Value.oneCell' = true) (hzk : zs.length = k) (hk0 : 0 < k) (hby : P.bytesOf (P.elem t) = by_) (hn : 0 ≤ n) (hroom : by_ * n ≤ 2 ^ 48) (hmax : n ≤ 2 ^ 63 - 1) :
    OpSem P B o e M (.o h) (some (h, .own k (P.elem t) (List.replicate n.toNat (zs.map .v)))) := by
  intro O H a w hB hs hm K hK
  have hx' := hs x (by simp [ho, Op.operands]) _ hx
  have hy' := hs y (by simp [ho, Op.operands]) _ hy
  obtain ⟨z, hz1, hz2⟩ := run_zero hz w
  obtain ⟨hu, i, hi, hik⟩ := esz_spec hk
  have hbi : i.bytes = by_ := by simpa [Program.bytesOf, hi] using hby
  have hwrap : IntKind.i64.wrap n = n := IntWalk.i64_in _ ⟨by omega, by omega⟩
  have ex : a.eval x = .int .i64 n := by
    generalize a.eval x = v at hx'
    cases hx' with
    | d _ _ q => cases q with
      | v _ => rfl
  have ey : a.eval y = .int .i64 n := by
    generalize a.eval y = v at hy'
    cases hy' with
    | d _ _ q => cases q with
      | v _ => rfl
  obtain ⟨cs, hcs1, hcs2⟩ : ∃ cs : Array Value, (execOp a.eval o).run P w = .ok (.value (.slice (some ⟨w.heap.size, 0, none⟩) n.toNat n.toNat)) (w.alloc (.cells cs (P.elem t))) ∧ cs = (Array.range (n.toNat * k)).map (fun i => zs.toArray[i % zs.toArray.size]!) := by
    refine ⟨_, ?_, rfl⟩
    have hnb : ¬ ((by_ : Int) * n > 281474976710656) := by omega
    have hn0 : ¬ (n < 0) := by omega
    by_cases hl0 : n.toNat = 0
    · simp only [execOp, ho, Instr.makeSlice, ex, ey]
      simp [run_underlying hu, asInt, asIntOf, hwrap, hn0, hnb, typeInfo, hi, hbi, hl0, newRow, Sem.run_bind, sizeOf, hik, Array.range_zero']
    · simp only [execOp, ho, Instr.makeSlice, ex, ey]
      have : ¬ (n.toNat * k = 0) := by rw [Nat.mul_eq_zero, not_or]; exact ⟨hl0, by omega⟩
      simp [run_underlying hu, asInt, asIntOf, hwrap, hn0, hnb, typeInfo, hi, hbi, hl0, newRow, Sem.run_bind, sizeOf, hik, this, hz1, hz2]
  have hkeep := Keep.alloc (O := O) (H := H) (w := w) (.cells cs (P.elem t)) h (.slice (some ⟨w.heap.size, 0, none⟩) n.toNat n.toNat)
  unfold Oper.wp
  rw [hcs1]
  obtain ⟨H', hH'⟩ : ∃ H' : Nat → Value, H' = fun m => if m = h then (.slice (some ⟨w.heap.size, 0, none⟩) n.toNat n.toNat : Value) else H m := ⟨_, rfl⟩
  have hH : H' h = .slice (some ⟨w.heap.size, 0, none⟩) n.toNat n.toNat := by rw [hH']; simp
  rw [← hH'] at hkeep
  have ho' := RepS.o (O := fun b => if b = w.heap.size then h + 1 else O b) (w := w.alloc (.cells cs (P.elem t))) (H := H') h (by rw [hH]; rfl)
  rw [hH] at ho'
  refine hK _ _ _ _ hkeep ((Below.refl _ _).alloc (Nat.le_refl _) _) ho' (fun h' m he => ?_)
  simp only [Option.some.injEq, Prod.mk.injEq] at he
  obtain ⟨rfl, rfl⟩ := he
  refine .inr ⟨w.heap.size, n.toNat, cs, by rw [hH]; simp, hB, by simp, heap_new w _, by simp, by simp only [maxLen]; omega, by rw [hcs2]; simp, fun r hr => by rw [List.mem_replicate] at hr; rw [hr.2]; simp [hzk], fun i r j d hi hj => ?_⟩
  rw [List.getElem?_replicate] at hi
  split at hi
  · rename_i hlt
    simp only [Option.some.injEq] at hi
    subst hi
    simp only [List.getElem?_map, Option.map_eq_some_iff] at hj
    obtain ⟨v, hv, rfl⟩ := hj
    have hjk : j < k := by rw [← hzk]; exact (List.getElem?_eq_some_iff.1 hv).1
    refine ⟨v, ?_, .v v, by rw [List.all_eq_true] at h1; exact h1 v (List.mem_of_getElem? hv)⟩
    have hlt2 : i * k + j < n.toNat * k := by
      calc i * k + j < i * k + k := by omega
        _ = (i + 1) * k := by rw [Nat.succ_mul]
        _ ≤ n.toNat * k := Nat.mul_le_mul_right k hlt
    have hmod : (i * k + j) % k = j := by rw [Nat.mul_comm, Nat.mul_add_mod]; exact Nat.mod_eq_of_lt hjk
    rw [hcs2]
    simp [hlt2, hzk, hmod, getElem!_def, hv]
  · cases hi

/-- What the callee sees of an argument: memory of the caller's own reads like any other. -/
def S.view (M : Mem) : Nat → S → Option S
  | 0, _ => none
  | n + 1, s => match s with
    | .d x => some (.d x)
    | .p cs => some (.p cs)
    | .c k rows => some (.d (.s k rows))
    | .a K => some (.a K)
    | .g cs => (cs.mapM (S.view M n)).map .g
    | .t cs => (cs.mapM (S.view M n)).map .t
    | .f fn fs cs => match fs.mapM (S.view M n), cs.mapM (S.view M n) with
      | some fs', some cs' => some (.f fn fs' cs')
      | _, _ => none
    | .o h => match look M h with
      | some (.own k _ rows) => some (.d (.s k rows))
      | _ => none
    | .r h k => match look M h with
      | some (.box cs) => ((cs.drop k).mapM S.toD).map .p
      | _ => none
    | _ => none

theorem mapM_some {α β : Type} {f : α → Option β} : ∀ {l : List α} {r : List β}, l.mapM f = some r → r.length = l.length ∧ ∀ (i : Nat) (x : α) (y : β), l[i]? = some x → r[i]? = some y → f x = some y
  | [], r, h => by simp at h; subst h; exact ⟨rfl, fun i x y h => by simp at h⟩
  | a :: l, r, h => by
    simp only [List.mapM_cons, Option.bind_eq_bind, Option.pure_def, Option.bind_eq_some_iff, Option.some.injEq] at h
    obtain ⟨b, hb, bs, hbs, rfl⟩ := h
    obtain ⟨i1, i2⟩ := mapM_some hbs
    refine ⟨by simp [i1], fun i x y hx hy => ?_⟩
    cases i with
    | zero => simp at hx hy; subst hx; subst hy; exact hb
    | succ i => exact i2 i x y (by simpa using hx) (by simpa using hy)

def zO : Nat → Nat := fun _ => 0
def zH : Nat → Value := fun _ => undef

theorem RepD.zero {O : Nat → Nat} {w : World} {x : Value} {d : D} (h : RepD O w x d) : RepD zO w x d := h.mono fun _ _ _ => ⟨rfl, rfl⟩

theorem RepS.viewG {O O' : Nat → Nat} {H : Nat → Value} {w : World} (hm : Mems O H B w M) (h0 : ∀ b, O b = 0 → O' b = 0) (hh : ∀ b h m, look M h = some m → B ≤ b → O b = h + 1 → O' b = 0) : ∀ (n : Nat) {x : Value} {s s' : S}, RepS O H w x s → S.view M n s = some s' → RepS O' zH w x s'
  | 0, _, _, _, _, h => by simp [S.view] at h
  | n + 1, x, s, s', hr, h => by
    have hk : Keeps O w O' w := fun b _ h => ⟨h0 b h, rfl⟩
    have ih := fun {x : Value} {s s' : S} => RepS.viewG hm h0 hh n (x := x) (s := s) (s' := s')
    cases hr with
    | d x y hd => simp only [S.view, Option.some.injEq] at h; subst h; exact .d _ _ (hd.mono hk)
    | g xs ss hl h1 hg =>
      simp only [S.view, Option.map_eq_some_iff] at h
      obtain ⟨cs, hcs, rfl⟩ := h
      obtain ⟨m1, m2⟩ := mapM_some hcs
      refine .g xs cs (by rw [hl, m1]) h1 fun i x s hx hs => ?_
      have hlt : i < ss.length := by rw [← m1]; exact (List.getElem?_eq_some_iff.1 hs).1
      exact ih (hg i x _ hx (List.getElem?_eq_getElem hlt)) (m2 i _ _ (List.getElem?_eq_getElem hlt) hs)
    | p b off cs y hO hy hr =>
      simp only [S.view, Option.some.injEq] at h; subst h
      exact .p b off cs y (fun j d hd => h0 _ (hO j d hd)) hy (fun j d hd => ((hr j d hd).mono hk))
    | r h' b k hH =>
      simp only [S.view] at h
      cases hl : look M h' with
      | none => simp [hl] at h
      | some m =>
        cases m with
        | gone => simp [hl] at h
        | fr => simp [hl] at h
        | own => simp [hl] at h
        | box cs =>
          simp only [hl, Option.map_eq_some_iff] at h
          obtain ⟨ds, hds, rfl⟩ := h
          obtain ⟨m1, m2⟩ := mapM_some hds
          obtain ⟨b', xs, T, hH', hB', hO', hb, hsz, hc⟩ := hm h' _ hl
          rw [hH] at hH'
          simp only [Value.pointer.injEq, Option.some.injEq, Addr.mk.injEq, and_true] at hH'
          subst hH'
          have key : ∀ (j : Nat) (d : D), ds[j]? = some d → ∃ x, xs[k + j]? = some x ∧ RepD O w x d := by
            intro j d hd
            have hlt : j < (cs.drop k).length := by rw [← m1]; exact (List.getElem?_eq_some_iff.1 hd).1
            have hs := List.getElem?_eq_getElem hlt
            have hv := m2 j _ _ hs hd
            rw [List.getElem?_drop] at hs
            obtain ⟨x, hx, hr, _⟩ := hc _ _ hs
            refine ⟨x, hx, ?_⟩
            generalize (cs.drop k)[j] = s at hv hr
            cases s <;> simp [S.toD] at hv
            subst hv
            cases hr with
            | d _ _ hd => exact hd
          refine .p b k ds (fun j => (xs[k + j]?).getD undef) (fun _ _ _ => hh _ _ _ hl hB' hO') (fun j d hd => ?_) (fun j d hd => ?_)
          · obtain ⟨x, hx, _⟩ := key j d hd
            rw [cellOf hb hx, hx]; rfl
          · obtain ⟨x, hx, hr⟩ := key j d hd
            simp only [hx, Option.getD_some]; exact (hr.mono hk)
    | o h' h1 =>
      simp only [S.view] at h
      cases hl : look M h' with
      | none => simp [hl] at h
      | some m =>
        cases m with
        | gone => simp [hl] at h
        | fr => simp [hl] at h
        | box => simp [hl] at h
        | own k T rows =>
          simp only [hl, Option.some.injEq] at h
          subst h
          rcases hm h' _ hl with ⟨hnil, rfl⟩ | ⟨b, cap, xs, hH, hB', hO', hb, hlc, hcm, _, hw, hc⟩
          · rw [hnil]; exact .d _ _ (.e _ 0 _ (by simp [maxLen]))
          · rw [hH]
            refine .d _ _ (.s b 0 cap k rows (fun n => (xs[n]?).getD undef) hlc hcm hw (fun _ _ _ _ _ _ => hh _ _ _ hl hB' hO') (fun i r j d hi hj => ?_) (fun i r j d hi hj => ?_))
            · obtain ⟨x, hx, _⟩ := hc i r j d hi hj
              rw [cellOf hb (by rw [Nat.zero_add]; exact hx), hx]; rfl
            · obtain ⟨x, hx, hr, _⟩ := hc i r j d hi hj
              simp only [hx, Option.getD_some]; exact (hr.mono hk)
    | q => simp [S.view] at h
    | w => simp [S.view] at h
    | a x K hK => simp only [S.view, Option.some.injEq] at h; subst h; exact .a x K (K.mono _ _ _ _ _ hk hK)
    | t xs ss hl hg =>
      simp only [S.view, Option.map_eq_some_iff] at h
      obtain ⟨cs, hcs, rfl⟩ := h
      obtain ⟨m1, m2⟩ := mapM_some hcs
      refine .t xs cs (by rw [hl, m1]) fun i x s hx hs => ?_
      have hlt : i < ss.length := by rw [← m1]; exact (List.getElem?_eq_some_iff.1 hs).1
      exact ih (hg i x _ hx (List.getElem?_eq_getElem hlt)) (m2 i _ _ (List.getElem?_eq_getElem hlt) hs)
    | f fn xs ys fs cs hl hl' hg hg' =>
      simp only [S.view] at h
      cases hfs : fs.mapM (S.view M n) with
      | none => simp [hfs] at h
      | some fs' =>
        cases hcs : cs.mapM (S.view M n) with
        | none => simp [hfs, hcs] at h
        | some cs' =>
          simp only [hfs, hcs, Option.some.injEq] at h
          subst h
          obtain ⟨m1, m2⟩ := mapM_some hfs
          obtain ⟨n1, n2⟩ := mapM_some hcs
          refine .f fn xs ys fs' cs' (by rw [hl, m1]) (by rw [hl', n1]) (fun i x s hx hs => ?_) (fun i x s hx hs => ?_)
          · have hlt : i < fs.length := by rw [← m1]; exact (List.getElem?_eq_some_iff.1 hs).1
            exact ih (hg i x _ hx (List.getElem?_eq_getElem hlt)) (m2 i _ _ (List.getElem?_eq_getElem hlt) hs)
          · have hlt : i < cs.length := by rw [← n1]; exact (List.getElem?_eq_some_iff.1 hs).1
            exact ih (hg' i x _ hx (List.getElem?_eq_getElem hlt)) (n2 i _ _ (List.getElem?_eq_getElem hlt) hs)
    | c a k rows hd => simp only [S.view, Option.some.injEq] at h; subst h; exact .d _ _ (hd.mono hk)
    | u => simp [S.view] at h

theorem RepS.view {O : Nat → Nat} {H : Nat → Value} {w : World} (hm : Mems O H B w M) (n : Nat) {x : Value} {s s' : S} (h : RepS O H w x s) (hv : S.view M n s = some s') : RepS zO zH w x s' :=
  RepS.viewG hm (fun _ _ => rfl) (fun _ _ _ _ _ _ => rfl) n h hv
end
end Go.Eng
