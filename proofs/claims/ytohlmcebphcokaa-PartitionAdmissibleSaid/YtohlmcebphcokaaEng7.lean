/- The engine, part 7: stores, appends, the beginning and the end of a function. -/
import Derived.Test.YtohlmcebphcokaaEng6
set_option linter.unusedSimpArgs false
set_option linter.unnecessarySimpa false
set_option linter.unusedVariables false
namespace Go.Eng
open Go.RowKit (Below)

theorem Below.setRow {B : Nat} {w : World} {b : Nat} {cs : Array Value} (hb : B ≤ b) : Below B w (w.setRow b cs) :=
  ⟨rfl, rfl, rfl, by simp [World.setRow], fun k hk => setRow_other w b k cs (by omega)⟩

theorem Keep.setRow {O : Nat → Nat} {H : Nat → Value} {w : World} {b h : Nat} {cs : Array Value} (hO : O b = h + 1) : Keep (some h) none O H w O H (w.setRow b cs) :=
  ⟨fun _ _ => rfl, fun b' hb' hne => setRow_other w b b' cs fun e => hne h rfl (by rw [e]; exact hO), fun _ _ => rfl⟩

section
variable {P : Program} {N : Nat} {w0 : World} {O0 : Nat → Nat} {ops : Array Oper} {Q : Post} {e : Env} {M : Mem} {rest : List Oper} {o : Oper} {s : S}

theorem run_storeVar {t : TypeId} {g : Bool} {n : Nat} (ht : vsz P t = some (g, n)) {w : World} {b off T : Nat} {cur : Array Value} {v : Value} (hb : w.heap[b]? = some (.cells cur T (0, 0))) (hn : v.cells.size = n) (hfit : off + n ≤ cur.size)
    (h1 : ∀ x, x ∈ v.cells.toList → x.oneCell' = true) :
    (storeVar t ⟨b, off, none⟩ v).run P w = .ok () (w.setRow b (cur.toList.take off ++ v.cells.toList ++ cur.toList.drop (off + n)).toArray) := by
  have hst := run_storeCells_at P b off T v.cells.toList 0 cur w hb (by simp; omega) h1
  simp only [Nat.add_zero, Array.length_toList, hn] at hst
  simp only [storeVar, Sem.run_bind, (run_isAgg ht w).2, Result.andThen_ok, hn, ne_eq, not_true_eq_false, if_false, Sem.run_pure, hst]

/-- A store into a variable of the call's own. -/
theorem TrOps.storeb {t : TypeId} {x y : Operand} {h k : Nat} {cs ss : List S} {g : Bool} (ho : o.op = .store t x y) (hg : o.guard = none) (hd : o.dst = none) (hx : opS e x = some (.r h k)) (hM : look M h = some (.box cs)) (hy : opS e y = some s) (hs : s.cells = some ss)
    (ht : vsz P t = some (g, ss.length)) (hk : k + ss.length ≤ cs.length) (hn : TrOps P N w0 O0 ops Q e ((h, .box (cs.take k ++ ss ++ cs.drop (k + ss.length))) :: M) rest) : TrOps P N w0 O0 ops Q e M (o :: rest) := by
  intro O H a w hst
  have hr := hst.slotsAt #[x] x (by simp) _ hx
  have hv := hst.slotsAt #[y] y (by simp) _ hy
  obtain ⟨b, xs, T, hH, hB, hO, hb, hsz, hc⟩ := hst.mem h _ hM
  obtain ⟨v1, v2⟩ := hv.cells hs
  generalize hxa : a.eval x = xa at hr
  cases hr with
  | r h b' k hH' =>
    rw [hH] at hH'
    simp only [Value.pointer.injEq, Option.some.injEq, Addr.mk.injEq, and_true] at hH'
    subst hH'
    have h1 : ∀ z, z ∈ (a.eval y).cells.toList → z.oneCell' = true := by
      intro z hz
      obtain ⟨i, hi⟩ := List.getElem?_of_mem hz
      have hlt : i < ss.length := by rw [← v1]; have := (List.getElem?_eq_some_iff.1 hi).1; simpa using this
      obtain ⟨z', hz', _, ho'⟩ := v2 i _ (List.getElem?_eq_getElem hlt)
      have : z = z' := by simpa [hz'] using hi.symm
      rw [this]; exact ho'
    have hrun := run_storeVar ht (off := k) hb v1 (by rw [hsz]; omega) h1
    refine wpList_plain hg fun K hK => ?_
    unfold Oper.wp
    simp only [execOp, ho, hxa, Instr.storeAt, Instr.sureAddr, Sem.run_bind, Sem.run_pure, Result.andThen_ok, hrun, Oper.upon_skip]
    refine hK _ _ (hn O H _ _ ⟨?_, ?_, hst.bl.trans ((Below.setRow hB).mono (Nat.le_refl _)), hst.lab, fun n s' hs' => ?_, fun h' m hm => ?_⟩)
    · rw [hd]; exact hst.df
    · rw [hd]; exact hst.sz
    · rw [hd]
      obtain ⟨z, hz, hr⟩ := hst.slots n s' hs'
      exact ⟨z, hz, hr.mono0 (Keep.setRow hO)⟩
    · have hk' := Keep.setRow (O := O) (H := H) (w := w) (cs := (xs.toList.take k ++ (a.eval y).cells.toList ++ xs.toList.drop (k + ss.length)).toArray) hO
      rcases look_cons hm with ⟨rfl, rfl⟩ | ⟨hne, hm⟩
      · refine ⟨b, _, T, hH, hB, hO, setRow_heap w b xs _ T _ hb, by simp; omega, fun i s' hi => ?_⟩
        by_cases h1 : i < k
        · rw [List.append_assoc, List.getElem?_append_left (by simp; omega), List.getElem?_take_of_lt h1] at hi
          obtain ⟨z, hz, hr, ho'⟩ := hc i s' hi
          refine ⟨z, ?_, hr.mono0 hk', ho'⟩
          simp only [List.getElem?_toArray]
          rw [List.append_assoc, List.getElem?_append_left (by simp; omega), List.getElem?_take_of_lt h1]
          simpa using hz
        · by_cases h2 : i < k + ss.length
          · rw [List.append_assoc, List.getElem?_append_right (by simp; omega), List.getElem?_append_left (by simp; omega)] at hi
            obtain ⟨z, hz, hr, ho'⟩ := v2 _ s' hi
            refine ⟨z, ?_, hr.mono0 hk', ho'⟩
            simp only [List.getElem?_toArray]
            rw [List.append_assoc, List.getElem?_append_right (by simp; omega), List.getElem?_append_left (by simp; omega)]
            simp only [List.length_take, Array.length_toList] at hz ⊢
            rw [Nat.min_eq_left (by omega)] at hz ⊢
            simpa using hz
          · rw [List.getElem?_append_right (by simp; omega), List.getElem?_drop] at hi
            have e1 : k + ss.length + (i - (List.take k cs ++ ss).length) = i := by simp; omega
            rw [e1] at hi
            obtain ⟨z, hz, hr, ho'⟩ := hc i s' hi
            refine ⟨z, ?_, hr.mono0 hk', ho'⟩
            simp only [List.getElem?_toArray]
            rw [List.getElem?_append_right (by simp; omega), List.getElem?_drop]
            have e2 : k + ss.length + (i - (List.take k xs.toList ++ (a.eval y).cells.toList).length) = i := by simp; omega
            rw [e2]
            simpa using hz
      · exact (hst.mem h' m hm).mono hk' (by simp; omega) (by simp) 0 (fun h he => by cases he) (.inl rfl)

/-- A store into an element of a slice of the call's own. -/
theorem TrOps.storeq {t : TypeId} {x y : Operand} {h k T i j : Nat} {rows : List (List D)} {r : List D} {d : D} (ho : o.op = .store t x y) (hg : o.guard = none) (hd : o.dst = none) (hx : opS e x = some (.q h k i j)) (hM : look M h = some (.own k T rows)) (hy : opS e y = some (.d d))
    (h1 : d.one = true) (ht : vsz P t = some (false, 1)) (hi : rows[i]? = some r) (hj : j < r.length) (hn : TrOps P N w0 O0 ops Q e ((h, .own k T (rows.set i (r.set j d))) :: M) rest) : TrOps P N w0 O0 ops Q e M (o :: rest) := by
  intro O H a w hst
  have hr := hst.slotsAt #[x] x (by simp) _ hx
  have hv := hst.slotsAt #[y] y (by simp) _ hy
  generalize hxa : a.eval x = xa at hr
  generalize hya : a.eval y = ya at hv
  have hilt : i < rows.length := (List.getElem?_eq_some_iff.1 hi).1
  cases hv with
  | d _ _ hv =>
  cases hr with
  | q h b k i j len cap' hH' =>
    rcases hst.mem h _ hM with ⟨h0, _⟩ | ⟨b', cap, xs, hH, hB, hO, hb, hlc, hcm, hsz, hw, hc⟩
    · rw [h0] at hH'; cases hH'
    · rw [hH] at hH'
      simp only [Value.slice.injEq, Option.some.injEq, Addr.mk.injEq, and_true] at hH'
      obtain ⟨rfl, _, _⟩ := hH'
      have hrk : r.length = k := hw r (List.mem_of_getElem? hi)
      have hbound : i * k + j < xs.size := by
        obtain ⟨z, hz, _⟩ := hc i r j _ hi (List.getElem?_eq_getElem hj)
        exact (Array.getElem?_eq_some_iff.1 hz).1
      have ho1 := hv.one' h1
      have hcells : ya.cells = #[ya] := by cases ya <;> simp_all [Value.cells, Value.oneCell']
      have hrun := run_storeVar (P := P) (v := ya) ht (off := i * k + j) hb (by rw [hcells]; rfl) (by omega) (by rw [hcells]; intro z hz; simp at hz; rw [hz]; exact ho1)
      refine wpList_plain hg fun K hK => ?_
      unfold Oper.wp
      simp only [execOp, ho, hxa, hya, Instr.storeAt, Instr.sureAddr, Sem.run_bind, Sem.run_pure, Result.andThen_ok, hrun, Oper.upon_skip]
      refine hK _ _ (hn O H _ _ ⟨?_, ?_, hst.bl.trans ((Below.setRow hB).mono (Nat.le_refl _)), hst.lab, fun n s' hs' => ?_, fun h' m hm => ?_⟩)
      · rw [hd]; exact hst.df
      · rw [hd]; exact hst.sz
      · rw [hd]
        obtain ⟨z, hz, hr⟩ := hst.slots n s' hs'
        exact ⟨z, hz, hr.mono0 (Keep.setRow hO)⟩
      · have hk' := Keep.setRow (O := O) (H := H) (w := w) (cs := (xs.toList.take (i * k + j) ++ ya.cells.toList ++ xs.toList.drop (i * k + j + 1)).toArray) hO
        have hset : (xs.toList.take (i * k + j) ++ ya.cells.toList ++ xs.toList.drop (i * k + j + 1)).toArray = xs.setIfInBounds (i * k + j) ya := by
          apply Array.ext'
          simp only [hcells, Array.toList_setIfInBounds, List.toList_toArray]
          rw [List.set_eq_take_append_cons_drop, if_pos (by simpa using hbound)]
          simp
        rcases look_cons hm with ⟨rfl, rfl⟩ | ⟨hne, hm⟩
        · refine .inr ⟨b', cap, _, by rw [List.length_set]; exact hH, hB, hO, setRow_heap w b' xs _ T _ hb, by simpa using hlc, hcm, by rw [hset, Array.size_setIfInBounds]; exact hsz, fun r' hr' => ?_, fun i' r' j' d' hi' hj' => ?_⟩
          · rcases List.mem_or_eq_of_mem_set hr' with h | h
            · exact hw r' h
            · rw [h, List.length_set]; exact hrk
          · rw [hset] at hk' ⊢
            by_cases hii : i' = i
            · subst hii
              rw [List.getElem?_set_self hilt] at hi'
              simp only [Option.some.injEq] at hi'
              subst hi'
              by_cases hjj : j' = j
              · subst hjj
                rw [List.getElem?_set_self hj] at hj'
                simp only [Option.some.injEq] at hj'
                subst hj'
                exact ⟨ya, by simp [hbound], hv.mono hk'.keeps, ho1⟩
              · rw [List.getElem?_set_ne (by omega)] at hj'
                obtain ⟨z, hz, hr, ho'⟩ := hc i' r j' d' hi hj'
                exact ⟨z, by rw [Array.getElem?_setIfInBounds_ne (by omega)]; exact hz, hr.mono hk'.keeps, ho'⟩
            · rw [List.getElem?_set_ne (by omega)] at hi'
              obtain ⟨z, hz, hr, ho'⟩ := hc i' r' j' d' hi' hj'
              refine ⟨z, ?_, hr.mono hk'.keeps, ho'⟩
              have hj'k : j' < k := by rw [← hw r' (List.mem_of_getElem? hi')]; exact (List.getElem?_eq_some_iff.1 hj').1
              rw [Array.getElem?_setIfInBounds_ne ?_]
              · exact hz
              · intro he
                have hjk : j < k := by omega
                rcases Nat.lt_or_gt_of_ne hii with hlt | hlt
                · have : (i' + 1) * k ≤ i * k := Nat.mul_le_mul_right k hlt
                  rw [Nat.succ_mul] at this; omega
                · have : (i + 1) * k ≤ i' * k := Nat.mul_le_mul_right k hlt
                  rw [Nat.succ_mul] at this; omega
        · exact (hst.mem h' m hm).mono hk' (by simp; omega) (by simp) 0 (fun h he => by cases he) (.inl rfl)

/-- What append makes of a slice of the call's own. -/
theorem run_append {t ty k T h B : Nat} {rows rows2 : List (List D)} {O : Nat → Nat} {H : Nat → Value} {w : World} {y : Value} {zs : List Value} {by_ : Nat} (hk : esz P t = some k) (hT : P.elem t = T) (hz : zcells P T = some zs) (hzk : zs.length = k)
    (hby : P.bytesOf T = by_) (hm : MHold O H B w h (.own k T rows)) (hy : RepD O w y (.s k rows2)) (hone : ∀ r, r ∈ rows2 → r.all D.one = true) (hB : B ≤ w.heap.size) (hlen : (rows.length + rows2.length) ≤ maxLen) (hroom : (rows.length + rows2.length) * by_ ≤ 140737488355328) :
    ∃ (x' : Value) (w' : World) (O' : Nat → Nat) (H' : Nat → Value), (Builtin.append_ #[t, t] ty #[H h, y]).run P w = .ok x' w' ∧ Keep (some h) (some h) O H w O' H' w' ∧ Below B w w' ∧ H' h = x' ∧ x'.oneCell' = true ∧
      MHold O' H' B w' h (.own k T (rows ++ rows2)) := by
  obtain ⟨hu, i, hi, hik⟩ := esz_spec hk
  rw [hT] at hu hi
  have hbi : i.bytes = by_ := by simpa [Program.bytesOf, hi] using hby
  obtain ⟨z, hiz, hzc⟩ : ∃ z, i.zero = some z ∧ z.cells = zs.toArray := by
    unfold zcells at hz
    cases hq : i.zero with
    | none => simp [hi, hq] at hz
    | some z => simp [hi, hq] at hz; exact ⟨z, rfl, by rw [← hz]⟩
  have hzz : z.cells.size = k := by rw [hzc]; simpa using hzk
  by_cases h2 : rows2 = []
  · -- nothing is added
    subst h2
    obtain ⟨ad, c, rfl, _⟩ := hy.slice
    refine ⟨H h, w, O, H, ?_, .refl _ _ _ _ _, .refl _ _, rfl, ?_, by rw [List.append_nil]; exact hm⟩
    · have hf : ∀ w, (Builtin.firstCells k 0 (.slice ad 0 c)).run P w = .ok #[] w := by
        intro w
        cases ad with
        | none => simp [Builtin.firstCells]
        | some a => simp [Builtin.firstCells, loadCells, loadCellsFrom]
      rcases hm with ⟨h0, rfl⟩ | ⟨b, cap, xs, hH, _, _, _, hlc, _⟩
      · rw [h0]
        simp [Builtin.append_, run_underlying hu, sizeOf, typeInfo, hi, Builtin.lenOf, hik, hf]
      · rw [hH]
        simp [Builtin.append_, run_underlying hu, sizeOf, typeInfo, hi, Builtin.lenOf, hik, hf, hlc, storeCells]
    · rcases hm with ⟨h0, _⟩ | ⟨b, cap, xs, hH, _⟩
      · rw [h0]; rfl
      · rw [hH]; rfl
  · cases hy with
    | e => exact absurd rfl h2
    | s b2 off c _ _ yv hc2 hm2 hw2 hO2 hy2 hr2 =>
      -- the cells that are added
      have hlk : ∀ (q n : Nat), q < n * k → 0 < k → q / k < n := fun q n hq hk0 => Nat.div_lt_of_lt_mul (by rw [Nat.mul_comm]; exact hq)
      have hk0 : 0 < k ∨ k = 0 := by omega
      have hnews : ∀ (j : Nat) (v : Value), ((List.range (rows2.length * k)).map yv)[j]? = some v → w.cell? ((⟨b2, off, none⟩ : Addr).add j) = some v := by
        intro j v hj
        simp only [List.getElem?_map, Option.map_eq_some_iff] at hj
        obtain ⟨j', hj', rfl⟩ := hj
        have hlt : j < rows2.length * k := by have := (List.getElem?_eq_some_iff.1 hj').1; simpa using this
        have : j' = j := by simpa [hlt] using hj'.symm
        subst this
        have hkp : 0 < k := hk0.elim id (fun h => by rw [h] at hlt; simp at hlt)
        have hq := hlk j' rows2.length hlt hkp
        have hr := List.getElem?_eq_getElem hq
        have hrl : (rows2[j' / k]).length = k := hw2 _ (List.getElem_mem hq)
        have hd := List.getElem?_eq_getElem (l := rows2[j' / k]) (i := j' % k) (by rw [hrl]; exact Nat.mod_lt _ hkp)
        have := hy2 _ _ _ _ hr hd
        rw [Addr.add_lit]
        have e1 : j' / k * k + j' % k = j' := by rw [Nat.mul_comm]; exact Nat.div_add_mod j' k
        rw [e1] at this
        exact this
      have hnl : ((List.range (rows2.length * k)).map yv).length = rows2.length * i.size := by simp [hik]
      have hnew1 : ∀ u, u ∈ (List.range (rows2.length * k)).map yv → u.oneCell' = true := by
        intro u hu'
        simp only [List.mem_map, List.mem_range] at hu'
        obtain ⟨j', hlt, rfl⟩ := hu'
        have hkp : 0 < k := hk0.elim id (fun h => by rw [h] at hlt; simp at hlt)
        have hq := hlk j' rows2.length hlt hkp
        have hr := List.getElem?_eq_getElem hq
        have hrl : (rows2[j' / k]).length = k := hw2 _ (List.getElem_mem hq)
        have hd := List.getElem?_eq_getElem (l := rows2[j' / k]) (i := j' % k) (by rw [hrl]; exact Nat.mod_lt _ hkp)
        have hrep := hr2 _ _ _ _ hr hd
        have e1 : j' / k * k + j' % k = j' := by rw [Nat.mul_comm]; exact Nat.div_add_mod j' k
        rw [e1] at hrep
        refine hrep.one' ?_
        have := hone _ (List.getElem_mem hq)
        rw [List.all_eq_true] at this
        exact this _ (List.getElem_mem _)
      have hmp : 0 < rows2.length := List.length_pos_iff.2 h2
      have hcell2 : ∀ (i' : Nat) (r : List D) (j : Nat) (d : D), rows2[i']? = some r → r[j]? = some d → ((List.range (rows2.length * k)).map yv)[i' * k + j]? = some (yv (i' * k + j)) ∧ RepD O w (yv (i' * k + j)) d ∧ (yv (i' * k + j)).oneCell' = true := by
        intro i' r j d hi' hj
        have hrl : r.length = k := hw2 r (List.mem_of_getElem? hi')
        have hjk : j < k := by rw [← hrl]; exact (List.getElem?_eq_some_iff.1 hj).1
        have hil : i' < rows2.length := (List.getElem?_eq_some_iff.1 hi').1
        have hlt : i' * k + j < rows2.length * k := by
          have : (i' + 1) * k ≤ rows2.length * k := Nat.mul_le_mul_right k hil
          rw [Nat.succ_mul] at this; omega
        refine ⟨by simp [hlt], hr2 _ _ _ _ hi' hj, hnew1 _ (by simp only [List.mem_map, List.mem_range]; exact ⟨_, hlt, rfl⟩)⟩
      -- what the rows come to once they lie in an array
      have rowsAt : ∀ (xs : List Value) (cur : Array Value) (O' : Nat → Nat) (w' : World), xs.length = rows.length * k → (∀ (i : Nat) (r : List D) (j : Nat) (d : D), rows[i]? = some r → r[j]? = some d → ∃ x, xs[i * k + j]? = some x ∧ RepD O w x d ∧ x.oneCell' = true) → (∀ r, r ∈ rows → r.length = k) →
          (∀ j, j < (rows.length + rows2.length) * k → cur[j]? = (xs ++ (List.range (rows2.length * k)).map yv)[j]?) → Keeps O w O' w' →
          (∀ r, r ∈ rows ++ rows2 → r.length = k) ∧ ∀ (i : Nat) (r : List D) (j : Nat) (d : D), (rows ++ rows2)[i]? = some r → r[j]? = some d → ∃ x, cur[i * k + j]? = some x ∧ RepD O' w' x d ∧ x.oneCell' = true := by
        intro xs cur O' w' hxl hxc hrw hcur hkeep
        refine ⟨fun r hr => (List.mem_append.1 hr).elim (hrw r) (hw2 r), fun i' r j d hi' hj => ?_⟩
        have hil : i' < rows.length + rows2.length := by have := (List.getElem?_eq_some_iff.1 hi').1; simpa using this
        have hrl : r.length = k := ((List.mem_append.1 (List.mem_of_getElem? hi')).elim (hrw r) (hw2 r))
        have hjk : j < k := by rw [← hrl]; exact (List.getElem?_eq_some_iff.1 hj).1
        have hlt : i' * k + j < (rows.length + rows2.length) * k := by
          have : (i' + 1) * k ≤ (rows.length + rows2.length) * k := Nat.mul_le_mul_right k hil
          rw [Nat.succ_mul] at this; omega
        rw [hcur _ hlt]
        by_cases hlo : i' < rows.length
        · rw [List.getElem?_append_left hlo] at hi'
          obtain ⟨x, hx, hr, h1⟩ := hxc i' r j d hi' hj
          refine ⟨x, ?_, hr.mono hkeep, h1⟩
          have : i' * k + j < xs.length := (List.getElem?_eq_some_iff.1 hx).1
          rw [List.getElem?_append_left this]; exact hx
        · rw [List.getElem?_append_right (by omega)] at hi'
          obtain ⟨hx, hr, h1⟩ := hcell2 _ r j d hi' hj
          refine ⟨_, ?_, hr.mono hkeep, h1⟩
          have hge : rows.length * k ≤ i' * k := Nat.mul_le_mul_right k (by omega)
          rw [List.getElem?_append_right (by omega), hxl]
          have : i' * k + j - rows.length * k = (i' - rows.length) * k + j := by rw [Nat.sub_mul]; omega
          rw [this]; exact hx
      rcases hm with ⟨h0, hr0⟩ | ⟨b, cap, xs, hH, hBb, hOb, hb, hlc, hcm, hsz, hw, hc⟩
      · -- nil: a new row
        subst hr0
        simp only [List.length_nil, Nat.zero_add] at hlen hroom
        have hrun := run_append_nil (P := P) w t ty T i z hu hi hiz ⟨b2, off, none⟩ rows2.length c _ hnl hnews hmp (by simp only [maxLen] at hlen; omega) (by rw [hbi]; omega)
        have hge := grownCap_ge w rows2.length 0 T
        have hle := grownCap_le_maxLen w rows2.length 0 T hlen
        rw [h0]
        refine ⟨_, _, fun b' => if b' = w.heap.size then h + 1 else O b', fun n => if n = h then .slice (some ⟨w.heap.size, 0, none⟩) rows2.length (grownCap w rows2.length 0 T) else H n, hrun, ?_, ?_, by simp, rfl, ?_⟩
        · exact ⟨fun b' hb' => by simp [Nat.ne_of_lt hb'], fun b' hb' _ => heap_alloc_old w.drew _ hb', fun n hn => by simp; intro e; subst e; exact (hn rfl).elim⟩
        · exact ⟨rfl, rfl, rfl, by simp, fun b' hb' => heap_alloc_old w.drew _ (by simp; omega)⟩
        · have hkp : Keeps O w (fun b' => if b' = w.heap.size then h + 1 else O b') (w.drew.alloc (.cells (((List.range (rows2.length * k)).map yv).toArray ++ Builtin.zeroCells z.cells (grownCap w rows2.length 0 T - rows2.length)) T)) :=
            fun b' hb' hO => ⟨by simp [Nat.ne_of_lt hb', hO], heap_alloc_old w.drew _ hb'⟩
          obtain ⟨q1, q2⟩ := rowsAt [] (((List.range (rows2.length * k)).map yv).toArray ++ Builtin.zeroCells z.cells (grownCap w rows2.length 0 T - rows2.length)) _ _ (by simp) (fun i r j d h => by simp at h) (fun r hr => by simp at hr) (fun j hj => by
            simp only [List.length_nil, Nat.zero_add] at hj
            rw [Array.getElem?_append_left (by simpa using hj)]; simp) hkp
          refine .inr ⟨w.heap.size, _, _, by simp, hB, by simp, heap_alloc_new w.drew _, by simpa using hge, hle, ?_, q1, q2⟩
          simp only [Array.size_append, List.size_toArray, size_zeroCells, hzz, List.length_map, List.length_range, ← Nat.add_mul]
          congr 1; omega
      · have hxs : ∀ (i : Nat) (r : List D) (j : Nat) (d : D), rows[i]? = some r → r[j]? = some d → ∃ x, (xs.toList.take (rows.length * k))[i * k + j]? = some x ∧ RepD O w x d ∧ x.oneCell' = true := by
          intro i' r j d hi' hj
          obtain ⟨x, hx, hr, h1⟩ := hc i' r j d hi' hj
          refine ⟨x, ?_, hr, h1⟩
          have hrl : r.length = k := hw r (List.mem_of_getElem? hi')
          have hjk : j < k := by rw [← hrl]; exact (List.getElem?_eq_some_iff.1 hj).1
          have hil : i' < rows.length := (List.getElem?_eq_some_iff.1 hi').1
          have hlt : i' * k + j < rows.length * k := by
            have : (i' + 1) * k ≤ rows.length * k := Nat.mul_le_mul_right k hil
            rw [Nat.succ_mul] at this; omega
          rw [List.getElem?_take_of_lt hlt]; simpa using hx
        have hxl : (xs.toList.take (rows.length * k)).length = rows.length * k := by
          simp only [List.length_take, Array.length_toList, hsz]
          exact Nat.min_eq_left (Nat.mul_le_mul_right k hlc)
        by_cases hroom2 : rows.length + rows2.length ≤ cap
        · -- there is room
          have hfit : rows.length * i.size + ((List.range (rows2.length * k)).map yv).length ≤ xs.size := by
            rw [hnl, hsz, hik, ← Nat.add_mul]; exact Nat.mul_le_mul_right _ hroom2
          have hrun := run_append_room (P := P) w t ty T i hu hi b rows.length cap xs hb ⟨b2, off, none⟩ rows2.length c _ hnl hnews hnew1 hroom2 hfit
          rw [hH]
          refine ⟨_, _, O, fun n => if n = h then .slice (some ⟨b, 0, none⟩) (rows.length + rows2.length) cap else H n, hrun, ?_, Below.setRow hBb, by simp, rfl, ?_⟩
          · have := Keep.setRow (O := O) (H := H) (w := w) (cs := (xs.toList.take (rows.length * i.size) ++ (List.range (rows2.length * k)).map yv ++ xs.toList.drop (rows.length * i.size + ((List.range (rows2.length * k)).map yv).length)).toArray) hOb
            exact ⟨this.lab, this.hp, fun n hn => by simp; intro e; subst e; exact (hn rfl).elim⟩
          · have hkp := (Keep.setRow (O := O) (H := H) (w := w) (cs := (xs.toList.take (rows.length * i.size) ++ (List.range (rows2.length * k)).map yv ++ xs.toList.drop (rows.length * i.size + ((List.range (rows2.length * k)).map yv).length)).toArray) hOb).keeps
            obtain ⟨q1, q2⟩ := rowsAt (xs.toList.take (rows.length * k)) (xs.toList.take (rows.length * i.size) ++ (List.range (rows2.length * k)).map yv ++ xs.toList.drop (rows.length * i.size + ((List.range (rows2.length * k)).map yv).length)).toArray _ _ hxl hxs hw (fun j hj => by
              rw [List.getElem?_toArray, hik]
              rw [List.getElem?_append_left]
              rw [List.length_append, hxl, hnl, hik, ← Nat.add_mul]; exact hj) hkp
            refine .inr ⟨b, cap, _, by simp, hBb, hOb, setRow_heap w b xs _ T _ hb, by simpa using hroom2, hcm, ?_, q1, q2⟩
            simp only [List.size_toArray, List.length_append, List.length_take, List.length_drop, Array.length_toList, List.length_map, List.length_range, hik, hsz]
            have e1 := Nat.mul_le_mul_right k hlc
            have e2 := Nat.mul_le_mul_right k hroom2
            rw [Nat.add_mul] at e2
            omega
        · -- it grows
          have holds : ∀ (j : Nat) (u : Value), (xs.toList.take (rows.length * k))[j]? = some u → w.cell? ((⟨b, 0, none⟩ : Addr).add j) = some u := by
            intro j u hj
            have hlt : j < rows.length * k := by have := (List.getElem?_eq_some_iff.1 hj).1; rw [hxl] at this; exact this
            rw [List.getElem?_take_of_lt hlt] at hj
            rw [Addr.add_lit, Nat.zero_add]
            exact cellOf hb (by simpa using hj)
          have hrun := run_append_grow (P := P) w t ty T i z hu hi hiz ⟨b, 0, none⟩ rows.length cap (xs.toList.take (rows.length * k)) (by rw [hxl, hik]) holds ⟨b2, off, none⟩ rows2.length c _ hnl hnews (by omega) (by simp only [maxLen] at hlen; omega) (growslice_fits (by omega) (by rw [hbi]; exact hroom))
          have hge := grownCap_ge w (rows.length + rows2.length) cap T
          have hle := grownCap_le_maxLen w (rows.length + rows2.length) cap T hlen
          rw [hH]
          refine ⟨_, _, fun b' => if b' = w.heap.size then h + 1 else O b', fun n => if n = h then .slice (some ⟨w.heap.size, 0, none⟩) (rows.length + rows2.length) (grownCap w (rows.length + rows2.length) cap T) else H n, hrun, ?_, ?_, by simp, rfl, ?_⟩
          · exact ⟨fun b' hb' => by simp [Nat.ne_of_lt hb'], fun b' hb' _ => heap_alloc_old w.drew _ hb', fun n hn => by simp; intro e; subst e; exact (hn rfl).elim⟩
          · exact ⟨rfl, rfl, rfl, by simp, fun b' hb' => heap_alloc_old w.drew _ (by simp; omega)⟩
          · have hkp : Keeps O w (fun b' => if b' = w.heap.size then h + 1 else O b') (w.drew.alloc (.cells ((xs.toList.take (rows.length * k)).toArray ++ ((List.range (rows2.length * k)).map yv).toArray ++ Builtin.zeroCells z.cells (grownCap w (rows.length + rows2.length) cap T - (rows.length + rows2.length))) T)) :=
              fun b' hb' hO => ⟨by simp [Nat.ne_of_lt hb', hO], heap_alloc_old w.drew _ hb'⟩
            obtain ⟨q1, q2⟩ := rowsAt (xs.toList.take (rows.length * k)) ((xs.toList.take (rows.length * k)).toArray ++ ((List.range (rows2.length * k)).map yv).toArray ++ Builtin.zeroCells z.cells (grownCap w (rows.length + rows2.length) cap T - (rows.length + rows2.length))) _ _ hxl hxs hw (fun j hj => by
              rw [Array.getElem?_append_left (by simp only [Array.size_append, List.size_toArray, hxl, List.length_map, List.length_range, ← Nat.add_mul]; exact hj)]
              simp) hkp
            refine .inr ⟨w.heap.size, _, _, by simp, hB, by simp, heap_alloc_new w.drew _, by simpa using hge, hle, ?_, q1, q2⟩
            simp only [Array.size_append, List.size_toArray, size_zeroCells, hzz, hxl, List.length_map, List.length_range, ← Nat.add_mul]
            congr 1; omega

/-- append to a slice of the call's own: the handle stays, what else held it is forgotten. -/
theorem TrOps.append {x y : Operand} {t k h T d by_ : Nat} {rows rows2 : List (List D)} {zs : List Value} (ho : o.op = .call { callee := .builtin .append, args := #[x, y], argTypes := #[t, t] }) (hg : o.guard = none) (hd : o.dst = some d) (hdN : d < N)
    (hx : opS e x = some (.o h)) (hM : look M h = some (.own k T rows)) (hy : opS e y = some (.d (.s k rows2))) (hk : esz P t = some k) (hT : P.elem t = T) (hz : zcells P T = some zs) (hzk : zs.length = k) (hby : P.bytesOf T = by_)
    (hone : ∀ r, r ∈ rows2 → r.all D.one = true) (hlen : (rows.length + rows2.length) ≤ maxLen) (hroom : (rows.length + rows2.length) * by_ ≤ 140737488355328)
    (hn : TrOps P N w0 O0 ops Q ((d, .o h) :: kill h e) ((h, .own k T (rows ++ rows2)) :: killM h M) rest) : TrOps P N w0 O0 ops Q e M (o :: rest) := by
  intro O H a w hst
  have hsz := hst.size
  have hr := hst.slotsAt #[x] x (by simp) _ hx
  have hv := hst.slotsAt #[y] y (by simp) _ hy
  generalize hxa : a.eval x = xa at hr
  generalize hya : a.eval y = ya at hv
  cases hv with
  | d _ _ hv =>
  cases hr with
  | o h _ =>
    obtain ⟨x', w', O', H', hrun, hkeep, hbel, hH', h1, hm'⟩ := run_append (ty := o.type) hk hT hz hzk hby (hst.mem h _ hM) hv hone hsz hlen hroom
    refine wpList_plain hg fun K hK => ?_
    unfold Oper.wp
    have hex : (execOp a.eval o).run P w = .ok (.value x') w' := by simp [execOp, ho, resolve, invoke, builtin, hxa, hya, hrun]
    rw [hex]
    refine hK _ _ (hn O' H' _ _ ⟨?_, ?_, hst.bl.trans hbel, fun b hb' => (hkeep.lab b (by omega)).trans (hst.lab b hb'), ?_, fun h' m hm => ?_⟩)
    · rw [hd]; exact hst.df
    · rw [hd]; simp [Act.put, hst.sz]
    · rw [hd]
      refine put_slots hst.sz hdN (by rw [← hH']; exact .o h (by rw [hH']; exact h1)) fun n s hs => ?_
      obtain ⟨s', hs', hor⟩ := look_kill hs
      obtain ⟨z, hz, hr⟩ := hst.slots n s' hs'
      rcases hor with ⟨hok, rfl⟩ | rfl
      · exact ⟨z, hz, hr.mono hkeep 9 (fun h he => by cases he; exact hok) (.inr (by omega))⟩
      · exact ⟨z, hz, .u z⟩
    · rcases look_cons hm with ⟨rfl, rfl⟩ | ⟨hne, hm⟩
      · exact hm'
      · obtain ⟨m2, hm2, hor⟩ := look_killM hm
        rcases hor with rfl | ⟨hn', rfl⟩
        · trivial
        · exact ((hst.mem h' m2 hm2).kill (h := h)).mono hkeep (by simp; omega) (by simp; omega) 9 (fun h1 he => by cases he; exact Mo.kill_ok _ m2) (.inr (by omega))
end
end Go.Eng
