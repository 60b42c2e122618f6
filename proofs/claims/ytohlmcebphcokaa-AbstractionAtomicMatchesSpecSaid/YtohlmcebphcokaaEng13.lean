/- The engine, part 13: append to a clipped slice: a new slice of the call's own. -/
import Derived.Test.YtohlmcebphcokaaEng12
set_option linter.unusedSimpArgs false
set_option linter.unnecessarySimpa false
set_option linter.unusedVariables false
namespace Go.Eng
open Go.RowKit (Below)

/-- A list of cells holds these rows. -/
def RowsIn (O : Nat → Nat) (w : World) (k : Nat) (vals : List Value) (rows : List (List D)) : Prop :=
  vals.length = rows.length * k ∧ (∀ r, r ∈ rows → r.length = k) ∧ ∀ (i : Nat) (r : List D) (j : Nat) (d : D), rows[i]? = some r → r[j]? = some d → ∃ x, vals[i * k + j]? = some x ∧ RepD O w x d

theorem RowsIn.app {O : Nat → Nat} {w : World} {k : Nat} {v1 v2 : List Value} {r1 r2 : List (List D)} (h1 : RowsIn O w k v1 r1) (h2 : RowsIn O w k v2 r2) : RowsIn O w k (v1 ++ v2) (r1 ++ r2) := by
  refine ⟨by simp [h1.1, h2.1, Nat.add_mul], fun r hr => (List.mem_append.1 hr).elim (h1.2.1 r) (h2.2.1 r), fun i r j d hi hj => ?_⟩
  by_cases hlo : i < r1.length
  · rw [List.getElem?_append_left hlo] at hi
    obtain ⟨x, hx, hr⟩ := h1.2.2 i r j d hi hj
    exact ⟨x, by rw [List.getElem?_append_left (List.getElem?_eq_some_iff.1 hx).1]; exact hx, hr⟩
  · rw [List.getElem?_append_right (by omega)] at hi
    obtain ⟨x, hx, hr⟩ := h2.2.2 _ r j d hi hj
    have hge : r1.length * k ≤ i * k := Nat.mul_le_mul_right k (by omega)
    refine ⟨x, ?_, hr⟩
    rw [List.getElem?_append_right (by rw [h1.1]; omega), h1.1]
    have : i * k + j - r1.length * k = (i - r1.length) * k + j := by rw [Nat.sub_mul]; omega
    rw [this]; exact hx

theorem RepD.cellsL {O : Nat → Nat} {w : World} {a : Addr} {n c k : Nat} {rows : List (List D)} (h : RepD O w (.slice (some a) n c) (.s k rows)) (hk0 : 0 < k) :
    n = rows.length ∧ ∃ vals : List Value, RowsIn O w k vals rows ∧ ∀ j v, vals[j]? = some v → w.cell? (a.add j) = some v := by
  cases h with
  | e a c k hm => exact ⟨rfl, [], ⟨by simp, fun r hr => by simp at hr, fun i r j d hi => by simp at hi⟩, fun j v hj => by simp at hj⟩
  | s b off c k rows y hc hm hw hO hy hr =>
    refine ⟨rfl, (List.range (rows.length * k)).map y, ⟨by simp, hw, fun i r j d hi hj => ?_⟩, fun j v hj => ?_⟩
    · have hrl : r.length = k := hw r (List.mem_of_getElem? hi)
      have hjk : j < k := by rw [← hrl]; exact (List.getElem?_eq_some_iff.1 hj).1
      have hil : i < rows.length := (List.getElem?_eq_some_iff.1 hi).1
      have hlt : i * k + j < rows.length * k := by
        have : (i + 1) * k ≤ rows.length * k := Nat.mul_le_mul_right k hil
        rw [Nat.succ_mul] at this; omega
      exact ⟨y (i * k + j), by simp [hlt], hr i r j d hi hj⟩
    · simp only [List.getElem?_map, Option.map_eq_some_iff] at hj
      obtain ⟨j', hj', rfl⟩ := hj
      have hlt : j < rows.length * k := by have := (List.getElem?_eq_some_iff.1 hj').1; simpa using this
      have : j' = j := by simpa [hlt] using hj'.symm
      subst this
      have hq : j' / k < rows.length := Nat.div_lt_of_lt_mul (by rw [Nat.mul_comm]; exact hlt)
      have hr' := List.getElem?_eq_getElem hq
      have hrl : (rows[j' / k]).length = k := hw _ (List.getElem_mem hq)
      have hd := List.getElem?_eq_getElem (l := rows[j' / k]) (i := j' % k) (by rw [hrl]; exact Nat.mod_lt _ hk0)
      have := hy _ _ _ _ hr' hd
      rw [Addr.add_lit]
      have e1 : j' / k * k + j' % k = j' := by rw [Nat.mul_comm]; exact Nat.div_add_mod j' k
      rw [e1] at this
      exact this

theorem RepD.noneNil {O : Nat → Nat} {w : World} {x : Value} {n c k : Nat} {rows : List (List D)} (h : RepD O w x (.s k rows)) (hx : x = .slice none n c) : rows = [] := by
  cases h with
  | e => rfl
  | s => cases hx
section
variable {P : Program} {B : Nat} {o : Oper} {e : Env} {M : Mem}
/-- append to a clipped slice: it never has room. -/
theorem OpSem.appendC {x y : Operand} {t k T by_ : Nat} {rows rows2 : List (List D)} {zs : List Value} (h : Nat) (ho : o.op = .call { callee := .builtin .append, args := #[x, y], argTypes := #[t, t] })
    (hx : opS e x = some (.c k rows)) (hy : opS e y = some (.d (.s k rows2))) (hk : esz P t = some k) (hT : P.elem t = T) (hz : zcells P T = some zs) (hzk : zs.length = k) (hk0 : 0 < k) (hby : P.bytesOf T = by_)
    (hone : ∀ r, r ∈ rows ++ rows2 → r.all D.one = true) (hne : 0 < rows2.length) (hlen : (rows.length + rows2.length) ≤ maxLen) (hroom : (rows.length + rows2.length) * by_ ≤ 140737488355328) :
    OpSem P B o e M (.o h) (some (h, .own k T (rows ++ rows2))) := by
  intro O H a w hB hs hm K hK
  have hr := hs x (by simp [ho, Op.operands, Call.operands]) _ hx
  have hv := hs y (by simp [ho, Op.operands, Call.operands]) _ hy
  generalize hxa : a.eval x = xa at hr
  generalize hya : a.eval y = ya at hv
  obtain ⟨hu, i, hi, hik⟩ := esz_spec hk
  rw [hT] at hu hi
  have hbi : i.bytes = by_ := by simpa [Program.bytesOf, hi] using hby
  obtain ⟨z, hiz, hzc⟩ : ∃ z, i.zero = some z ∧ z.cells = zs.toArray := by
    unfold zcells at hz
    cases hq : i.zero with
    | none => simp [hi, hq] at hz
    | some z => simp [hi, hq] at hz; exact ⟨z, rfl, by rw [← hz]⟩
  have hzz : z.cells.size = k := by rw [hzc]; simpa using hzk
  obtain ⟨a2, c2, rfl, hv2⟩ : ∃ a2 c2, ya = .slice (some a2) rows2.length c2 ∧ RepD O w (.slice (some a2) rows2.length c2) (.s k rows2) := by
    cases hv with
    | d _ _ q => cases q with
      | e => simp at hne
      | s b off c _ _ yv h1 h2 h3 h4 h5 h6 => exact ⟨⟨b, off, none⟩, c, rfl, .s b off c k rows2 yv h1 h2 h3 h4 h5 h6⟩
  obtain ⟨_, news, hn1, hn2⟩ := hv2.cellsL hk0
  -- the rest of the way, from the run on
  have finish : ∀ (x' : Value) (cap : Nat) (vals : List Value), RowsIn O w k vals (rows ++ rows2) → x' = .slice (some ⟨w.heap.size, 0, none⟩) (rows.length + rows2.length) cap → rows.length + rows2.length ≤ cap → cap ≤ maxLen →
      (execOp a.eval o).run P w = .ok (.value x') (w.drew.alloc (.cells (vals.toArray ++ Builtin.zeroCells z.cells (cap - (rows.length + rows2.length))) T)) → o.wp P a w K (fun _ _ _ => False) := by
    intro x' cap vals hvals hx' hc1 hc2 hrun
    unfold Oper.wp
    rw [hrun]
    obtain ⟨H', hH'⟩ : ∃ H' : Nat → Value, H' = fun m => if m = h then x' else H m := ⟨_, rfl⟩
    have hH : H' h = x' := by rw [hH']; simp
    have hkp : Keeps O w (fun b' => if b' = w.heap.size then h + 1 else O b') (w.drew.alloc (.cells (vals.toArray ++ Builtin.zeroCells z.cells (cap - (rows.length + rows2.length))) T)) :=
      fun b' hb' hO => ⟨by simp [Nat.ne_of_lt hb', hO], heap_alloc_old w.drew _ hb'⟩
    refine hK (fun b' => if b' = w.heap.size then h + 1 else O b') H' _ x' ⟨fun b' hb' => by simp [Nat.ne_of_lt hb'], fun b' hb' _ => heap_alloc_old w.drew _ hb', fun n hn => by rw [hH']; simp; intro e; subst e; exact (hn (by simp)).elim⟩
      ⟨rfl, rfl, rfl, by simp, fun b' hb' => heap_alloc_old w.drew _ (by simp; omega)⟩ ?_ (fun h' m he => ?_)
    · have := RepS.o (O := fun b' => if b' = w.heap.size then h + 1 else O b') (w := w.drew.alloc (.cells (vals.toArray ++ Builtin.zeroCells z.cells (cap - (rows.length + rows2.length))) T)) (H := H') h (by rw [hH, hx']; rfl)
      rwa [hH] at this
    · simp only [Option.some.injEq, Prod.mk.injEq] at he
      obtain ⟨rfl, rfl⟩ := he
      refine .inr ⟨w.heap.size, cap, _, by rw [hH, hx']; simp, hB, by simp, heap_alloc_new w.drew _, by simpa using hc1, hc2, ?_, hvals.2.1, fun i' r j d hi' hj => ?_⟩
      · simp only [Array.size_append, List.size_toArray, size_zeroCells, hzz, hvals.1, List.length_append, ← Nat.add_mul]
        congr 1; omega
      · obtain ⟨v, hv, hrep⟩ := hvals.2.2 i' r j d hi' hj
        refine ⟨v, ?_, hrep.mono hkp, hrep.one' ?_⟩
        · have hlt := (List.getElem?_eq_some_iff.1 hv).1
          rw [Array.getElem?_append_left (by simpa using hlt)]; simpa using hv
        · have := hone r (List.mem_of_getElem? hi')
          rw [List.all_eq_true] at this
          exact this d (List.mem_of_getElem? hj)
  have hnl : news.length = rows2.length * i.size := by rw [hn1.1, hik]
  cases hr with
  | c ad _ _ hrd =>
    cases ad with
    | none =>
      have hr0 : rows = [] := hrd.noneNil rfl
      subst hr0
      simp only [List.length_nil, Nat.zero_add] at hlen hroom
      have hrun := run_append_nil (P := P) w t o.type T i z hu hi hiz a2 rows2.length c2 news hnl hn2 hne (by simp only [maxLen] at hlen; omega) (by rw [hbi]; omega)
      refine finish (.slice (some ⟨w.heap.size, 0, none⟩) rows2.length (grownCap w rows2.length 0 T)) (grownCap w rows2.length 0 T) news (by simpa using hn1) (by simp) (by simpa using grownCap_ge w rows2.length 0 T) (grownCap_le_maxLen w rows2.length 0 T hlen) ?_
      simp [execOp, ho, resolve, invoke, builtin, hxa, hya, hrun]
    | some a1 =>
      obtain ⟨_, olds, ho1, ho2⟩ := hrd.cellsL hk0
      have hrun := run_append_grow (P := P) w t o.type T i z hu hi hiz a1 rows.length rows.length olds (by rw [ho1.1, hik]) ho2 a2 rows2.length c2 news hnl hn2 (by omega) (by simp only [maxLen] at hlen; omega) (growslice_fits (by omega) (by rw [hbi]; exact hroom))
      refine finish (.slice (some ⟨w.heap.size, 0, none⟩) (rows.length + rows2.length) (grownCap w (rows.length + rows2.length) rows.length T)) (grownCap w (rows.length + rows2.length) rows.length T) (olds ++ news) (ho1.app hn1) rfl (grownCap_ge w (rows.length + rows2.length) rows.length T) (grownCap_le_maxLen w (rows.length + rows2.length) rows.length T hlen) ?_
      simp [execOp, ho, resolve, invoke, builtin, hxa, hya, hrun]
end
end Go.Eng
