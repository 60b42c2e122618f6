/- The engine and the walks that this claim uses, part 2. Written by prune.py out of our own texts. -/
import Derived.Test.YtohlmcebphcokaaA1
import Derived.Laws.CopyRow
import Derived.IntWalk
import Derived.ChangeKeysEq
import Derived.Test.YtohlmcebphcokaaProg
import Derived.KernelRfl
section
/- The engine, part 15: windows of a slice of the call's own, copy; other kinds of numbers. -/



set_option linter.unusedSimpArgs false
set_option linter.unnecessarySimpa false
set_option linter.unusedVariables false
namespace Go.Eng
open Go.RowKit (Below)

section
variable {P : Program} {B : Nat} {o : Oper} {e : Env} {M : Mem} {s : S}
/-- The value of a slice of the call's own that is not empty. -/
theorem MHold.ownSome {O : Nat → Nat} {H : Nat → Value} {w : World} {h k T : Nat} {rows : List (List D)} (hm : MHold O H B w h (.own k T rows)) (hr : 0 < rows.length) :
    ∃ (b cap : Nat) (xs : Array Value), H h = .slice (some ⟨b, 0, none⟩) rows.length cap ∧ B ≤ b ∧ O b = h + 1 ∧
      w.heap[b]? = some (.cells xs T (0, 0)) ∧ rows.length ≤ cap ∧ cap ≤ maxLen ∧ xs.size = cap * k ∧ (∀ r, r ∈ rows → r.length = k) ∧
      ∀ (i : Nat) (r : List D) (j : Nat) (d : D), rows[i]? = some r → r[j]? = some d → ∃ x, xs[i * k + j]? = some x ∧ RepD O w x d ∧ x.oneCell' = true := by
  rcases hm with ⟨_, h1⟩ | h1
  · rw [h1] at hr; simp at hr
  · exact h1
/-- x[lo:], x of the call's own. -/
theorem OpSem.sliceoL {t k T h : Nat} {x l : Operand} {rows : List (List D)} {kk : IntKind} {n : Int} (ho : o.op = .slice t x (some l) none none) (hx : opS e x = some (.o h)) (hM : look M h = some (.own k T rows)) (hl : opS e l = some (.d (.v (.int kk n))))
    (ht : esz P t = some k) (h0 : 0 ≤ n) (h1 : n < rows.length) : OpSem P B o e M (.w h k n.toNat (rows.length - n.toNat)) none :=
  .value fun O H a w hs hms => by
    have hx' := hs x (by simp [ho, Op.operands]) _ hx
    have hl' := hs l (by simp [ho, Op.operands]) _ hl
    obtain ⟨b, cap, xs, g1, g2, g3, g4, g5, g6, g7, g8, g9⟩ := (hms h _ hM).ownSome (by omega)
    generalize hv : a.eval x = v at hx'
    generalize hu : a.eval l = u at hl'
    cases hl' with
    | d _ _ hl' => cases hl' with
      | v _ => cases hx' with
        | o h h1' =>
          rw [g1] at hv
          refine ⟨_, ?_, .w h b k n.toNat (rows.length - n.toNat) rows.length cap g1 (by omega)⟩
          have := run_slice_l (P := P) w t (some ⟨b, 0, none⟩) rows.length cap (esz_spec ht).1 kk n h0 (by omega)
          simp only [execOp, ho, hv, hu, Option.map_some, Option.map_none, Sem.run_bind, run_sliceAt_slice w t _ _ _ _ (esz_spec ht).1, this, run_sizeElem ht, Result.andThen_ok, Sem.run_pure]
          unfold sliced
          rw [if_neg (by omega)]
          simp [Addr.add_lit]
/-- Cells copied into a slice of the call's own. -/
theorem copy_core {O : Nat → Nat} {H : Nat → Value} {w : World} {t1 t2 ty T h b lo len dcap cap slen scap n : Nat} {xs : Array Value} {rows src : List (List D)} {a : Addr} {cs : List Value}
    (hk : esz P t1 = some 1) (g1 : H h = .slice (some ⟨b, 0, none⟩) rows.length cap) (g2 : B ≤ b) (g3 : O b = h + 1) (g4 : w.heap[b]? = some (.cells xs T (0, 0))) (g5 : rows.length ≤ cap) (g6 : cap ≤ maxLen) (g7 : xs.size = cap * 1)
    (g8 : ∀ r, r ∈ rows → r.length = 1) (g9 : ∀ (i : Nat) (r : List D) (j : Nat) (d : D), rows[i]? = some r → r[j]? = some d → ∃ x, xs[i * 1 + j]? = some x ∧ RepD O w x d ∧ x.oneCell' = true)
    (hn : n = Nat.min slen len) (hcs : cs.length = n) (hsrcl : src.length = n) (hlen : lo + len ≤ rows.length) (hsrc : ∀ j v, cs[j]? = some v → w.cell? (a.add j) = some v)
    (hs1 : ∀ r, r ∈ src → r.length = 1) (hs2 : ∀ (i : Nat) (r : List D) (d : D), src[i]? = some r → r[0]? = some d → ∃ x, cs[i]? = some x ∧ RepD O w x d ∧ x.oneCell' = true) (hone : ∀ v, v ∈ cs → v.oneCell' = true) :
    ∃ w', (Builtin.copy_ #[t1, t2] ty #[.slice (some ⟨b, lo, none⟩) len dcap, .slice (some a) slen scap]).run P w = .ok (goInt n) w' ∧ Keep (some h) none O H w O H w' ∧ Below B w w' ∧ MHold O H B w' h (.own 1 T (rows.take lo ++ src ++ rows.drop (lo + n))) := by
  obtain ⟨e1, i, hi1, hi2⟩ := esz_spec hk
  have hmin : n ≤ len := by rw [hn]; exact Nat.min_le_right _ _
  have hrun := run_copy_row (P := P) w t1 t2 ty (P.elem t1) b lo len dcap a slen scap xs T cs e1 (by rw [hi1]; simp [hi2]) g4 (by rw [hcs, hn]) hsrc (by rw [hcs, g7]; omega) hone
  have hke := Keep.setRow (O := O) (H := H) (w := w) (cs := (xs.toList.take lo ++ cs ++ xs.toList.drop (lo + cs.length)).toArray) g3
  refine ⟨_, by rw [hrun, hcs], hke, (Below.setRow g2).mono (Nat.le_refl _), ?_⟩
  have hl' : (rows.take lo ++ src ++ rows.drop (lo + n)).length = rows.length := by simp; omega
  refine .inr ⟨b, cap, _, by rw [hl']; exact g1, g2, g3, setRow_heap w b xs _ T _ g4, by rw [hl']; exact g5, g6, by simp [hcs]; omega, fun r hr => ?_, fun i r j d hi hj => ?_⟩
  · simp only [List.mem_append] at hr
    rcases hr with (hr | hr) | hr
    · exact g8 r (List.mem_of_mem_take hr)
    · exact hs1 r hr
    · exact g8 r (List.mem_of_mem_drop hr)
  · have hrl : r.length = 1 := by
      have hr := List.mem_of_getElem? hi
      simp only [List.mem_append] at hr
      rcases hr with (hr | hr) | hr
      · exact g8 r (List.mem_of_mem_take hr)
      · exact hs1 r hr
      · exact g8 r (List.mem_of_mem_drop hr)
    have hj0 : j = 0 := by have := (List.getElem?_eq_some_iff.1 hj).1; omega
    subst hj0
    simp only [Nat.mul_one, Nat.add_zero, List.getElem?_toArray]
    by_cases h1 : i < lo
    · rw [List.append_assoc, List.getElem?_append_left (by simp; omega), List.getElem?_take_of_lt h1] at hi
      obtain ⟨x, hx, hr, ho⟩ := g9 i r 0 d hi hj
      refine ⟨x, ?_, hr.mono hke.keeps, ho⟩
      rw [List.append_assoc, List.getElem?_append_left (by simp; omega), List.getElem?_take_of_lt h1]
      simpa using hx
    · by_cases h2 : i < lo + n
      · rw [List.append_assoc, List.getElem?_append_right (by simp; omega), List.getElem?_append_left (by simp; omega)] at hi
        obtain ⟨x, hx, hr, ho⟩ := hs2 _ r d hi hj
        refine ⟨x, ?_, hr.mono hke.keeps, ho⟩
        rw [List.append_assoc, List.getElem?_append_right (by simp; omega), List.getElem?_append_left (by simp; omega)]
        simp only [List.length_take, Array.length_toList] at hx ⊢
        rw [Nat.min_eq_left (by omega)] at hx ⊢
        exact hx
      · rw [List.getElem?_append_right (by simp; omega), List.getElem?_drop] at hi
        have e1 : lo + n + (i - (List.take lo rows ++ src).length) = i := by simp; omega
        rw [e1] at hi
        obtain ⟨x, hx, hr, ho⟩ := g9 i r 0 d hi hj
        refine ⟨x, ?_, hr.mono hke.keeps, ho⟩
        rw [List.getElem?_append_right (by simp; omega), List.getElem?_drop]
        have e2 : lo + cs.length + (i - (List.take lo xs.toList ++ cs).length) = i := by simp; omega
        rw [e2]
        simpa using hx
/-- copy(x, y): data into a slice of the call's own, from its beginning. -/
theorem OpSt.copyO {t1 t2 T h : Nat} {x y : Operand} {rows src : List (List D)} (ho : o.op = .call { callee := .builtin .copy, args := #[x, y], argTypes := #[t1, t2] }) (hx : opS e x = some (.o h)) (hy : opS e y = some (.d (.s 1 src)))
    (hk : esz P t1 = some 1) (hone : ∀ r, r ∈ src → r.all D.one = true) (h1 : 0 < src.length) (h2 : src.length ≤ rows.length) :
    OpSt P B o e h (.own 1 T rows) (.own 1 T (src ++ rows.drop src.length)) (.d (.v (.int .i64 src.length))) := by
  intro O H a w hBw hsl hm K hK
  have hx' := hsl x (by simp [ho, Op.operands, Call.operands]) _ hx
  have hy' := hsl y (by simp [ho, Op.operands, Call.operands]) _ hy
  obtain ⟨b, cap, xs, g1, g2, g3, g4, g5, g6, g7, g8, g9⟩ := hm.ownSome (by omega)
  generalize hv : a.eval x = v at hx'
  generalize hu : a.eval y = u at hy'
  cases hx' with
  | o h h1' =>
    cases hy' with
    | d _ _ hy' =>
      obtain ⟨ad, c, hvv, hc, hcm⟩ := hy'.slice
      cases ad with
      | none => exact absurd (hy'.noneNil hvv) (by intro e; rw [e] at h1; simp at h1)
      | some ad =>
        subst hvv
        obtain ⟨_, vals, ⟨v1, v2, v3⟩, hcell⟩ := hy'.cellsL (by omega)
        have hmin : src.length = Nat.min src.length rows.length := (Nat.min_eq_left h2).symm
        have hval : ∀ (i : Nat) (r : List D) (d : D), src[i]? = some r → r[0]? = some d → ∃ x, vals[i]? = some x ∧ RepD O w x d ∧ x.oneCell' = true := fun i r d hi hd => by
          obtain ⟨x, hx, hr⟩ := v3 i r 0 d hi hd
          refine ⟨x, by simpa using hx, hr, hr.one' ?_⟩
          exact List.all_eq_true.1 (hone r (List.mem_of_getElem? hi)) d (List.mem_of_getElem? hd)
        have hall : ∀ z, z ∈ vals → z.oneCell' = true := fun z hz => by
          obtain ⟨i, hi⟩ := List.getElem?_of_mem hz
          have hlt : i < src.length := by have := (List.getElem?_eq_some_iff.1 hi).1; omega
          have hrl := v2 src[i] (List.getElem_mem hlt)
          obtain ⟨x, hx, _, ho⟩ := hval i src[i] (src[i][0]'(by omega)) (List.getElem?_eq_getElem hlt) (List.getElem?_eq_getElem _)
          rw [hi] at hx; cases hx; exact ho
        obtain ⟨w', hrun, hke, hbe, hmh⟩ := copy_core (P := P) (B := B) (t2 := t2) (ty := o.type) (lo := 0) (dcap := cap) (scap := c) (n := src.length) (cs := vals) (src := src) (slen := src.length) (len := rows.length) (a := ad) hk g1 g2 g3 g4 g5 g6 g7 g8 g9 hmin (by omega) rfl (by omega) hcell v2 hval hall
        have hex : (execOp a.eval o).run P w = .ok (.value (goInt src.length)) w' := by rw [g1] at hv; simp [execOp, ho, resolve, invoke, builtin, hv, hu, hrun]
        unfold Oper.wp
        rw [hex]
        refine hK w' _ hke hbe ?_ (by unfold goInt; exact .d _ _ (.v _))
        simpa using hmh
/-- copy(x, y): one window of a slice of the call's own into another one. -/
theorem OpSt.copyW {t1 t2 T h lo len lo2 len2 : Nat} {x y : Operand} {rows : List (List D)} (ho : o.op = .call { callee := .builtin .copy, args := #[x, y], argTypes := #[t1, t2] }) (hx : opS e x = some (.w h 1 lo len)) (hy : opS e y = some (.w h 1 lo2 len2))
    (hk : esz P t1 = some 1) (h1 : lo + len ≤ rows.length) (h2 : lo2 + len2 ≤ rows.length) (h3 : 0 < rows.length) :
    OpSt P B o e h (.own 1 T rows) (.own 1 T (rows.take lo ++ (rows.drop lo2).take (min len2 len) ++ rows.drop (lo + min len2 len))) (.d (.v (.int .i64 (min len2 len : Nat)))) := by
  intro O H a w hBw hsl hm K hK
  have hx' := hsl x (by simp [ho, Op.operands, Call.operands]) _ hx
  have hy' := hsl y (by simp [ho, Op.operands, Call.operands]) _ hy
  obtain ⟨b, cap, xs, g1, g2, g3, g4, g5, g6, g7, g8, g9⟩ := hm.ownSome h3
  obtain ⟨n, hn⟩ : ∃ n, n = min len2 len := ⟨_, rfl⟩
  have hn1 : n ≤ len2 := by rw [hn]; exact Nat.min_le_left _ _
  generalize hv : a.eval x = v at hx'
  generalize hu : a.eval y = u at hy'
  rw [← hn] at hK
  cases hx' with
  | w h b1 k lo len L C hH hl =>
    cases hy' with
    | w h b2 k lo2 len2 L2 C2 hH2 hl2 =>
      rw [g1] at hH hH2
      simp only [Value.slice.injEq, Option.some.injEq, Addr.mk.injEq, and_true] at hH hH2
      obtain ⟨rfl, rfl, rfl⟩ := hH
      obtain ⟨rfl, _, _⟩ := hH2
      simp only [Nat.mul_one] at hv hu
      have hsz : xs.size = cap := by simpa using g7
      have hval : ∀ (i : Nat) (r : List D) (d : D), ((rows.drop lo2).take n)[i]? = some r → r[0]? = some d → ∃ x, ((xs.toList.drop lo2).take n)[i]? = some x ∧ RepD O w x d ∧ x.oneCell' = true := fun i r d hi hd => by
        have hin : i < n := by have := (List.getElem?_eq_some_iff.1 hi).1; simp at this; omega
        rw [List.getElem?_take_of_lt hin, List.getElem?_drop] at hi
        obtain ⟨x, hx, hr, ho⟩ := g9 (lo2 + i) r 0 d hi hd
        refine ⟨x, ?_, hr, ho⟩
        rw [List.getElem?_take_of_lt hin, List.getElem?_drop]
        simpa using hx
      have hl1 : ((rows.drop lo2).take n).length = n := by simp; omega
      have hl3 : ((xs.toList.drop lo2).take n).length = n := by simp; omega
      have hs1 : ∀ r, r ∈ (rows.drop lo2).take n → r.length = 1 := fun r hr => g8 r (List.mem_of_mem_drop (List.mem_of_mem_take hr))
      have hall : ∀ z, z ∈ (xs.toList.drop lo2).take n → z.oneCell' = true := fun z hz => by
        obtain ⟨i, hi⟩ := List.getElem?_of_mem hz
        have hlt : i < ((rows.drop lo2).take n).length := by rw [hl1, ← hl3]; exact (List.getElem?_eq_some_iff.1 hi).1
        have hrl := hs1 _ (List.getElem_mem hlt)
        obtain ⟨x, hx, _, ho⟩ := hval i _ (((rows.drop lo2).take n)[i][0]'(by omega)) (List.getElem?_eq_getElem hlt) (List.getElem?_eq_getElem _)
        rw [hi] at hx; cases hx; exact ho
      have hsrc : ∀ j v, ((xs.toList.drop lo2).take n)[j]? = some v → w.cell? ((⟨b, lo2, none⟩ : Addr).add j) = some v := fun j v hj => by
        have hin : j < n := by have := (List.getElem?_eq_some_iff.1 hj).1; omega
        rw [List.getElem?_take_of_lt hin, List.getElem?_drop] at hj
        rw [Addr.add_lit]
        exact cellOf g4 (by simpa using hj)
      obtain ⟨w', hrun, hke, hbe, hmh⟩ := copy_core (P := P) (B := B) (t2 := t2) (ty := o.type) (lo := lo) (dcap := cap - lo) (scap := C2 - lo2) (n := n) (cs := (xs.toList.drop lo2).take n) (src := (rows.drop lo2).take n) (slen := len2) (len := len) (a := ⟨b, lo2, none⟩) hk g1 g2 g3 g4 g5 g6 g7 g8 g9 hn hl3 hl1 h1 hsrc hs1 hval hall
      have hex : (execOp a.eval o).run P w = .ok (.value (goInt n)) w' := by simp [execOp, ho, resolve, invoke, builtin, hv, hu, hrun]
      unfold Oper.wp
      rw [hex]
      exact hK w' _ hke hbe hmh (by unfold goInt; exact .d _ _ (.v _))
end
section
variable {P : Program} {N : Nat} {w0 : World} {O0 : Nat → Nat} {ops : Array Oper} {Q : Post} {e e0 : Env} {M M0 : Mem} {hs : List Nat} {rest : List Oper} {o : Oper} {s : S} {id : Nat} {ps : List PO}
/-- An operation that writes into memory of the call's own, and yields something. -/
theorem TrOps.ofSt {h d : Nat} {m m' : Mo} (hst : OpSt P w0.heap.size o e h m m' s) (hM : look M h = some m) (hg : o.guard = none) (hd : o.dst = some d) (hdN : d < N)
    (hn : TrOps P N w0 O0 ops Q ((d, s) :: e) ((h, m') :: M) rest) : TrOps P N w0 O0 ops Q e M (o :: rest) := by
  intro O H a w h0
  refine wpList_plain hg fun K hK => Oper.wp_false (hst O H a w h0.bl.size (h0.slotsAt _) (h0.mem h m hM) _ fun w' x h1 h2 h3 h4 => hK _ _ (hn O H _ _ ⟨?_, ?_, h0.bl.trans (h2.mono (Nat.le_refl _)), h0.lab, ?_, fun h' mm hm => ?_⟩)) _
  · rw [hd]; exact h0.df
  · rw [hd]; simp [Act.put, h0.sz]
  · rw [hd]
    refine put_slots h0.sz hdN h4 fun n s' hs' => ?_
    obtain ⟨z, hz, hr⟩ := h0.slots n s' hs'
    exact ⟨z, hz, hr.mono0 h1⟩
  · rcases look_cons hm with ⟨rfl, rfl⟩ | ⟨hne, hm⟩
    · exact h3
    · exact (h0.mem h' mm hm).mono h1 (by intro e; cases e; exact hne rfl) (by simp) 0 (fun h he => by cases he) (.inl rfl)
theorem PC.ofSt {h d : Nat} {m m' : Mo} (hst : OpSt P w0.heap.size o e h m m' s) (hM : look M0 h = some m) (hg : o.guard = none) (hd : o.dst = some d)
    (hn : PC P N w0 O0 id ops Q hs e0 M0 (ps ++ [⟨d, s, none, some (h, m, m'), true⟩]) ((d, s) :: e) rest) : PC P N w0 O0 id ops Q hs e0 M0 ps e (o :: rest) := by
  intro pre hops hpw he
  subst he
  exact hn (pre ++ [o]) (by simp [hops]) (hpw.snoc ⟨hd, hg, rfl, hM, hst⟩) (by rw [finE_snoc]; rfl)
end
section
variable {P : Program} {N : Nat} {w0 : World} {O0 : Nat → Nat} {Q : Post} {e : Env} {M : Mem}
theorem St.toWin {O : Nat → Nat} {H : Nat → Value} {a : Act} {w : World} {n h k T : Nat} {rows : List (List D)} (hn : look e n = some (.o h)) (hM : look M h = some (.own k T rows)) (hr : 0 < rows.length) (hst : St N w0 O0 e M O H a w) : St N w0 O0 ((n, .w h k 0 rows.length) :: e) M O H a w := by
  refine ⟨hst.df, hst.sz, hst.bl, hst.lab, fun m s hs => ?_, hst.mem⟩
  rcases look_cons hs with ⟨rfl, rfl⟩ | ⟨_, hs⟩
  · obtain ⟨x, hx, hrep⟩ := hst.slots _ _ hn
    obtain ⟨b, cap, xs, g1, g2, g3, g4, g5, g6, g7, g8, g9⟩ := (hst.mem h _ hM).ownSome hr
    refine ⟨x, hx, ?_⟩
    cases hrep with
    | o h h1 =>
      rw [g1]
      have := RepS.w (O := O) (H := H) (w := w) h b k 0 rows.length rows.length cap g1 (by omega)
      simpa using this
  · exact hst.slots m s hs
theorem Tr.toWin {c : Code} (n : Nat) {h k T : Nat} {rows : List (List D)} (hn : look e n = some (.o h)) (hM : look M h = some (.own k T rows)) (hr : 0 < rows.length) (hc : Tr P N w0 O0 ((n, .w h k 0 rows.length) :: e) M c Q) : Tr P N w0 O0 e M c Q :=
  fun O H a w hst => hc O H a w (hst.toWin hn hM hr)
theorem St.ofWin {O : Nat → Nat} {H : Nat → Value} {a : Act} {w : World} {n h k T len : Nat} {rows : List (List D)} (hn : look e n = some (.w h k 0 len)) (hM : look M h = some (.own k T rows)) (hr : 0 < rows.length) (hl : len = rows.length) (hst : St N w0 O0 e M O H a w) : St N w0 O0 ((n, .o h) :: e) M O H a w := by
  refine ⟨hst.df, hst.sz, hst.bl, hst.lab, fun m s hs => ?_, hst.mem⟩
  rcases look_cons hs with ⟨rfl, rfl⟩ | ⟨_, hs⟩
  · obtain ⟨x, hx, hrep⟩ := hst.slots _ _ hn
    obtain ⟨b, cap, xs, g1, g2, g3, g4, g5, g6, g7, g8, g9⟩ := (hst.mem h _ hM).ownSome hr
    refine ⟨x, hx, ?_⟩
    cases hrep with
    | w h b' k lo len L C hH hl' =>
      rw [g1] at hH
      simp only [Value.slice.injEq, Option.some.injEq, Addr.mk.injEq, and_true] at hH
      obtain ⟨rfl, rfl, rfl⟩ := hH
      have := RepS.o (O := O) (H := H) (w := w) h (by rw [g1]; rfl)
      rw [g1] at this
      simpa [hl] using this
  · exact hst.slots m s hs
theorem At.ofWin {x : Exit} (n : Nat) {h k T len : Nat} {rows : List (List D)} (hn : look e n = some (.w h k 0 len)) (hM : look M h = some (.own k T rows)) (hr : 0 < rows.length) (hl : len = rows.length) (hc : At N w0 O0 ((n, .o h) :: e) M x Q) : At N w0 O0 e M x Q :=
  fun O H a w hst => hc O H a w (hst.ofWin hn hM hr hl)
theorem Tr.ofWin {c : Code} (n : Nat) {h k T len : Nat} {rows : List (List D)} (hn : look e n = some (.w h k 0 len)) (hM : look M h = some (.own k T rows)) (hr : 0 < rows.length) (hl : len = rows.length) (hc : Tr P N w0 O0 ((n, .o h) :: e) M c Q) : Tr P N w0 O0 e M c Q :=
  fun O H a w hst => hc O H a w (hst.ofWin hn hM hr hl)
end
section
variable {P : Program} {B : Nat} {o : Oper} {e : Env} {M : Mem} {s : S}
/-- A part of a window. -/
theorem OpSem.slicewL {t k h lo len : Nat} {x l : Operand} {kk : IntKind} {n : Int} (ho : o.op = .slice t x (some l) none none) (hx : opS e x = some (.w h k lo len)) (hl : opS e l = some (.d (.v (.int kk n))))
    (ht : esz P t = some k) (h0 : 0 ≤ n) (h1 : n < len) : OpSem P B o e M (.w h k (lo + n.toNat) (len - n.toNat)) none :=
  .value fun O H a w hs _ => by
    have hx' := hs x (by simp [ho, Op.operands]) _ hx
    have hl' := hs l (by simp [ho, Op.operands]) _ hl
    generalize hv : a.eval x = v at hx'
    generalize hu : a.eval l = u at hl'
    cases hl' with
    | d _ _ hl' => cases hl' with
      | v _ => cases hx' with
        | w h b k lo len L C hH hll =>
          have hw := RepS.w (O := O) (H := H) (w := w) h b k (lo + n.toNat) (len - n.toNat) L C hH (by omega)
          refine ⟨_, ?_, hw⟩
          have := run_slice_l (P := P) w t (some ⟨b, lo * k, none⟩) len (C - lo) (esz_spec ht).1 kk n h0 (by omega)
          simp only [execOp, ho, hv, hu, Option.map_some, Option.map_none, Sem.run_bind, run_sliceAt_slice w t _ _ _ _ (esz_spec ht).1, this, run_sizeElem ht, Result.andThen_ok, Sem.run_pure]
          unfold sliced
          rw [if_neg (by omega)]
          simp only [Option.map_some, Addr.add_lit, ← Nat.add_mul, Nat.sub_sub]
theorem OpSem.slicewH {t k h lo len : Nat} {x l : Operand} {kk : IntKind} {n : Int} (ho : o.op = .slice t x none (some l) none) (hx : opS e x = some (.w h k lo len)) (hl : opS e l = some (.d (.v (.int kk n))))
    (ht : esz P t = some k) (h0 : 0 ≤ n) (h1 : n ≤ len) (h2 : 0 < len) : OpSem P B o e M (.w h k lo n.toNat) none :=
  .value fun O H a w hs _ => by
    have hx' := hs x (by simp [ho, Op.operands]) _ hx
    have hl' := hs l (by simp [ho, Op.operands]) _ hl
    generalize hv : a.eval x = v at hx'
    generalize hu : a.eval l = u at hl'
    cases hl' with
    | d _ _ hl' => cases hl' with
      | v _ => cases hx' with
        | w h b k lo len L C hH hll =>
          have hw := RepS.w (O := O) (H := H) (w := w) h b k lo n.toNat L C hH (by omega)
          refine ⟨_, ?_, hw⟩
          have := run_slice_h (P := P) w t (some ⟨b, lo * k, none⟩) len (C - lo) (esz_spec ht).1 kk n h0 (by omega)
          simp only [execOp, ho, hv, hu, Option.map_some, Option.map_none, Sem.run_bind, run_sliceAt_slice w t _ _ _ _ (esz_spec ht).1, this, run_sizeElem ht, Result.andThen_ok, Sem.run_pure]
          unfold sliced
          rw [if_neg (by omega)]
          simp [Addr.add_lit]
end
/-- What is said less of an operation's outcome. -/
theorem OpSem.le {P : Program} {B : Nat} {o : Oper} {e : Env} {M : Mem} {s s' : S} {mo : Option (Nat × Mo)} (h : OpSem P B o e M s mo) (hl : Le s s') : OpSem P B o e M s' mo :=
  fun O H a w hB hs hm K hK => h O H a w hB hs hm K fun O' H' w' x h1 h2 h3 h4 => hK O' H' w' x h1 h2 (hl _ _ _ _ h3) h4
theorem OpSt.le {P : Program} {B : Nat} {o : Oper} {e : Env} {h : Nat} {m m' : Mo} {s s' : S} (hst : OpSt P B o e h m m' s) (hl : Le s s') : OpSt P B o e h m m' s' :=
  fun O H a w hB hs hm K hK => hst O H a w hB hs hm K fun w' x h1 h2 h3 h4 => hK w' x h1 h2 h3 (hl _ _ _ _ h4)
/-! ### Numbers of other kinds -/
abbrev U (n : Int) : S := .d (.v (.int .u64 n))
def cvk (P : Program) (src dst : TypeId) : Option IntKind := match P.underlying src, P.underlying dst with
  | some _, some (.int k) => some k
  | _, _ => none
theorem OpSem.conv {P : Program} {B : Nat} {o : Oper} {e : Env} {M : Mem} {src dst : TypeId} {x : Operand} {k kx : IntKind} {n : Int} (ho : o.op = .convert src dst x) (hx : opS e x = some (.d (.v (.int kx n)))) (ht : cvk P src dst = some k) (hn : k.wrap n = n) : OpSem P B o e M (.d (.v (.int k n))) none :=
  .value fun O H a w hs _ => by
    have hx' := hs x (by simp [ho, Op.operands]) _ hx
    generalize hv : a.eval x = v at hx'
    have hh : ∃ d, P.underlying src = some d ∧ P.underlying dst = some (.int k) := by
      unfold cvk at ht
      split at ht
      · rename_i d k' h1 h2; cases ht; exact ⟨d, h1, h2⟩
      · cases ht
    obtain ⟨d, h1, h2⟩ := hh
    cases hx' with
    | d _ _ hx' => cases hx' with
      | v _ =>
        refine ⟨.int k n, ?_, .d _ _ (.v _)⟩
        have : (convert src dst (.int kx n)).run P w = .ok (.int k n) w := by simp [convert, run_underlying h1, run_underlying h2, Conv.intToInt, hn]
        simp [execOp, ho, hv, this]
theorem wrap_u64 {n : Int} (h0 : 0 ≤ n) (h1 : n ≤ 18446744073709551615) : IntKind.u64.wrap n = n := IntWalk.u64_in n ⟨h0, h1⟩
theorem wrap_i64 {n : Int} (h0 : -9223372036854775808 ≤ n) (h1 : n ≤ 9223372036854775807) : IntKind.i64.wrap n = n := IntWalk.i64_in n ⟨h0, h1⟩
theorem baddu {t : TypeId} {m n : Int} (h0 : 0 ≤ m + n) (h1 : m + n ≤ 18446744073709551615) : binOp .add t (.int .u64 m) (.int .u64 n) = pure (.int .u64 (m + n)) := by
  rw [binOp_add]; simp only [Op.intArith]; rw [wrap_u64 h0 h1]
theorem bmulu {t : TypeId} {m n : Int} (h0 : 0 ≤ m * n) (h1 : m * n ≤ 18446744073709551615) : binOp .mul t (.int .u64 m) (.int .u64 n) = pure (.int .u64 (m * n)) := by
  rw [binOp_mul]; simp only [Op.intArith]; rw [wrap_u64 h0 h1]
theorem bshrK {t : TypeId} {k yk : IntKind} {m n : Int} (h0 : 0 ≤ n) (h1 : n ≤ k.bits) : binOp .shr t (.int k m) (.int yk n) = pure (.int k (m / 2 ^ n.toNat)) := by
  rw [binOp_shr]; exact shift_shr k yk m n h0 h1
theorem bgtrK {t : TypeId} {k : IntKind} {m n : Int} : binOp .gtr t (.int k m) (.int k n) = pure (.bool (decide (n < m))) := by rw [binOp_gtr]
/-- The low half of a number that has no other. -/
theorem bandLow {t : TypeId} {m : Int} (h0 : 0 ≤ m) (h1 : m ≤ 4294967295) : binOp .and t (.int .u64 m) (.int .u64 4294967295) = pure (.int .u64 m) := by
  rw [binOp_and, intBits_and]
  congr 2
  unfold bits
  obtain ⟨n, rfl⟩ := Int.eq_ofNat_of_zero_le h0
  have hb : (BitVec.ofInt 64 (n : Int) &&& BitVec.ofInt 64 4294967295).toNat = n := by
    have e1 : BitVec.ofInt 64 (n : Int) = BitVec.ofNat 64 n := by simp
    have e2 : BitVec.ofInt 64 4294967295 = BitVec.ofNat 64 4294967295 := by rfl
    rw [e1, e2, BitVec.toNat_and, BitVec.toNat_ofNat, BitVec.toNat_ofNat]
    have e3 : n % 2 ^ 64 = n := Nat.mod_eq_of_lt (by omega)
    have e4 : 4294967295 % 2 ^ 64 = 2 ^ 32 - 1 := by decide
    rw [e3, e4, Nat.and_two_pow_sub_one_eq_mod]
    exact Nat.mod_eq_of_lt (by omega)
  have hb' : ((BitVec.ofInt IntKind.u64.bits (n : Int) &&& BitVec.ofInt IntKind.u64.bits 4294967295).toNat : Int) = (n : Int) := congrArg Int.ofNat hb
  exact (congrArg IntKind.u64.wrap hb').trans (wrap_u64 (by omega) (by omega))
/-- Subtraction that may leave the range. -/
theorem bsubW {t : TypeId} {m n : Int} : binOp .sub t (.int .i64 m) (.int .i64 n) = pure (.int .i64 (IntKind.i64.wrap (m - n))) := by
  rw [binOp_sub]; rfl
end Go.Eng
end

section
/- The engine, part 16: variables of the call's own that are written no more; functions that have caught themselves. The engine, part 17: rows of several cells of the call's own, read, written, cleared, cut; callees that write an argument. -/

set_option linter.unusedSimpArgs false
set_option linter.unnecessarySimpa false
set_option linter.unusedVariables false
namespace Go.Eng
open Go.RowKit (Below)

/-- A pointer to a variable that holds a function which has caught this pointer, at the place of the .u of caps. -/
def selfK (F i0 : Nat) (caps : List S) : Kr := {
  q O w x := ∃ (b : Nat) (ys : List Value), x = .pointer (some ⟨b, 0, none⟩) ∧ O b = 0 ∧ w.cell? ⟨b, 0, none⟩ = some (.func (.func F) #[] ys.toArray) ∧ ys.length = caps.length ∧ ys[i0]? = some x ∧ ∀ (i : Nat) (y : Value) (s : S), ys[i]? = some y → caps[i]? = some s → RepS O zH w y s
  mono := fun O w O' w' x hk ⟨b, ys, h1, h2, h3, h4, h6, h5⟩ => ⟨b, ys, h1, (hk b (World.block_lt_of_cell? w _ h3) h2).1, hk.cell h2 h3, h4, h6, fun i y s hy hs => (h5 i y s hy hs).keeps hk⟩ }

section
variable {P : Program} {B : Nat} {o : Oper} {e : Env} {M : Mem}
end
/-- What is said, when variable h is written no more. -/
def fzb (h : Nat) (f : Nat → S) : Nat → S → S
  | 0, _ => .u
  | n + 1, s => match s with
    | .r h' k => bif Nat.beq h' h then f k else .r h' k
    | .o h' => bif Nat.beq h' h then .u else .o h'
    | .q h' a b c => bif Nat.beq h' h then .u else .q h' a b c
    | .w h' a b c => bif Nat.beq h' h then .u else .w h' a b c
    | .g cs => .g (cs.map (fzb h f n))
    | .t cs => .t (cs.map (fzb h f n))
    | .f fn fs cs => .f fn (fs.map (fzb h f n)) (cs.map (fzb h f n))
    | s => s
theorem fzb_rep {O O' : Nat → Nat} {H : Nat → Value} {w : World} {h : Nat} {f : Nat → S} (hk : Keeps O w O' w) (hf : ∀ (x : Value) (k : Nat), RepS O H w x (.r h k) → RepS O' H w x (f k)) : ∀ (n : Nat) (x : Value) (s : S), RepS O H w x s → RepS O' H w x (fzb h f n s)
  | 0, x, _, _ => .u x
  | n + 1, x, s, hr => by
    have hr' := hr
    cases hr with
    | d x y hh => exact hr'.keeps hk
    | g xs ss hl h1 hg =>
      refine .g xs _ (by simpa using hl) h1 fun i x s hx hs => ?_
      simp only [List.getElem?_map, Option.map_eq_some_iff] at hs
      obtain ⟨s', hs', rfl⟩ := hs
      exact fzb_rep hk hf n x s' (hg i x s' hx hs')
    | p => exact hr'.keeps hk
    | r h' b k hH =>
      simp only [fzb]
      cases hb : Nat.beq h' h with
      | true => have := Nat.eq_of_beq_eq_true hb; subst this; exact hf _ _ hr'
      | false => exact hr'.keeps hk
    | o h' h1 =>
      simp only [fzb]
      cases hb : Nat.beq h' h with
      | true => exact .u _
      | false => exact hr'.keeps hk
    | q h' b k i j len cap hH =>
      simp only [fzb]
      cases hb : Nat.beq h' h with
      | true => exact .u _
      | false => exact hr'.keeps hk
    | t xs ss hl hg =>
      refine .t xs _ (by simpa using hl) fun i x s hx hs => ?_
      simp only [List.getElem?_map, Option.map_eq_some_iff] at hs
      obtain ⟨s', hs', rfl⟩ := hs
      exact fzb_rep hk hf n x s' (hg i x s' hx hs')
    | f fn xs ys fs cs hl hl' hg hg' =>
      refine .f fn xs ys _ _ (by simpa using hl) (by simpa using hl') (fun i x s hx hs => ?_) (fun i x s hx hs => ?_)
      · simp only [List.getElem?_map, Option.map_eq_some_iff] at hs
        obtain ⟨s', hs', rfl⟩ := hs
        exact fzb_rep hk hf n x s' (hg i x s' hx hs')
      · simp only [List.getElem?_map, Option.map_eq_some_iff] at hs
        obtain ⟨s', hs', rfl⟩ := hs
        exact fzb_rep hk hf n x s' (hg' i x s' hx hs')
    | c => exact hr'.keeps hk
    | w h' b k lo len L C hH hl =>
      simp only [fzb]
      cases hb : Nat.beq h' h with
      | true => exact .u _
      | false => exact hr'.keeps hk
    | a => exact hr'.keeps hk
    | u => exact .u _
def Mo.fzb (h : Nat) (f : Nat → S) : Mo → Mo
  | .box cs => .box (cs.map (Go.Eng.fzb h f 9))
  | m => m
def fzbE (h : Nat) (f : Nat → S) (e : Env) : Env := e.map fun p => (p.1, fzb h f 9 p.2)
def fzbM (h : Nat) (f : Nat → S) (M : Mem) : Mem := M.map fun p => (p.1, bif Nat.beq p.1 h then .gone else p.2.fzb h f)

section
variable {P : Program} {N : Nat} {w0 : World} {O0 : Nat → Nat} {Q : Post} {e : Env} {M : Mem}
theorem St.freezeR {O : Nat → Nat} {H : Nat → Value} {a : Act} {w : World} {h : Nat} {cs : List S} {f : Nat → S} (hM : look M h = some (.box cs)) (hst : St N w0 O0 e M O H a w)
    (hf : ∀ b, H h = .pointer (some ⟨b, 0, none⟩) → w0.heap.size ≤ b → O b = h + 1 → MHold O H w0.heap.size w h (.box cs) → ∀ O', (∀ c, O' c = if c = b then 0 else O c) → ∀ (k : Nat), RepS O' H w (.pointer (some ⟨b, k, none⟩)) (f k)) :
    ∃ O', St N w0 O0 (fzbE h f e) (fzbM h f M) O' H a w := by
  have hmh := hst.mem h _ hM
  have hmh' := hmh
  obtain ⟨b, xs, T, hH, hB, hO, hb, hsz, hc⟩ := hmh
  obtain ⟨O', hO'⟩ : ∃ O' : Nat → Nat, O' = fun c => if c = b then 0 else O c := ⟨_, rfl⟩
  have hO'' : ∀ c, O' c = if c = b then 0 else O c := fun c => by rw [hO']
  have hk : Keeps O w O' w := fun c _ h0 => ⟨by rw [hO'']; split; rfl; exact h0, rfl⟩
  have hff := hf b hH hB hO hmh' O' hO''
  have hr : ∀ (n : Nat) (x : Value) (s : S), RepS O H w x s → RepS O' H w x (fzb h f n s) := fzb_rep hk fun x k hr => by
    cases hr with
    | r h' b' k hH' =>
      rw [hH] at hH'
      simp only [Value.pointer.injEq, Option.some.injEq, Addr.mk.injEq, and_true] at hH'
      subst hH'
      exact hff k
  refine ⟨O', hst.df, hst.sz, hst.bl, fun c hc' => ?_, fun n s hs => ?_, fun n m hm => ?_⟩
  · rw [hO'', if_neg (by omega)]; exact hst.lab c hc'
  · unfold fzbE at hs
    rw [look_map (fun _ v => fzb h f 9 v)] at hs
    obtain ⟨s', hs', rfl⟩ := Option.map_eq_some_iff.1 hs
    obtain ⟨x, hx, hrep⟩ := hst.slots n s' hs'
    exact ⟨x, hx, hr 9 x s' hrep⟩
  · unfold fzbM at hm
    rw [look_map (fun (k : Nat) (v : Mo) => bif Nat.beq k h then Mo.gone else Mo.fzb h f v)] at hm
    obtain ⟨m', hm', rfl⟩ := Option.map_eq_some_iff.1 hm
    cases hbq : Nat.beq n h with
    | true => simp [MHold]
    | false =>
      have hne : n ≠ h := fun e => by subst e; simp at hbq
      simp only [cond_false]
      have hold := hst.mem n m' hm'
      cases m' with
      | gone => trivial
      | fr K => exact K.mono _ _ _ _ _ hk hold
      | box cs' =>
        obtain ⟨b1, xs1, T1, g1, g2, g3, g4, g5, g6⟩ := hold
        refine ⟨b1, xs1, T1, g1, g2, ?_, g4, by simpa [Mo.fzb] using g5, fun i s hi => ?_⟩
        · rw [hO'', if_neg (fun e => by subst e; rw [hO] at g3; omega)]; exact g3
        · simp only [List.getElem?_map, Option.map_eq_some_iff] at hi
          obtain ⟨s', hs', rfl⟩ := hi
          obtain ⟨x, hx, hrep, ho⟩ := g6 i s' hs'
          exact ⟨x, hx, hr 9 x s' hrep, ho⟩
      | own k T1 rows =>
        rcases hold with ⟨g1, g2⟩ | ⟨b1, cap, xs1, g1, g2, g3, g4, g5, g6, g7, g8, g9⟩
        · exact .inl ⟨g1, g2⟩
        · refine .inr ⟨b1, cap, xs1, g1, g2, ?_, g4, g5, g6, g7, g8, fun i r j d hi hj => ?_⟩
          · rw [hO'', if_neg (fun e => by subst e; rw [hO] at g3; omega)]; exact g3
          · obtain ⟨x, hx, hrep, ho⟩ := g9 i r j d hi hj
            exact ⟨x, hx, hrep.mono hk, ho⟩
/-- A variable of plain data is written no more. -/
theorem Tr.freezeR {c : Code} (h : Nat) {cs : List S} {ds : List D} (hM : look M h = some (.box cs)) (hd : cs.mapM S.toD = some ds) (hc : Tr P N w0 O0 (fzbE h (fun k => .p (ds.drop k)) e) (fzbM h (fun k => .p (ds.drop k)) M) c Q) : Tr P N w0 O0 e M c Q := by
  intro O H a w hst
  obtain ⟨O', hst'⟩ := hst.freezeR (f := fun k => .p (ds.drop k)) hM (fun b hH hB hO hm O' hO' k => by
    obtain ⟨b', xs, T, hH', hB', hO2, hb, hsz, hcc⟩ := hm
    rw [hH] at hH'
    simp only [Value.pointer.injEq, Option.some.injEq, Addr.mk.injEq, and_true] at hH'
    subst hH'
    obtain ⟨m1, m2⟩ := mapM_some hd
    have hkk : Keeps O w O' w := fun c _ h0 => ⟨by rw [hO']; split; rfl; exact h0, rfl⟩
    have key : ∀ (j : Nat) (d : D), ds[j]? = some d → ∃ x, xs[j]? = some x ∧ RepD O w x d := fun j d hj => by
      have hlt : j < cs.length := by rw [← m1]; exact (List.getElem?_eq_some_iff.1 hj).1
      have h1 := m2 j _ d (List.getElem?_eq_getElem hlt) hj
      obtain ⟨x, hx, hr, _⟩ := hcc j _ (List.getElem?_eq_getElem hlt)
      generalize cs[j] = s at h1 hr
      cases s <;> simp [S.toD] at h1
      subst h1
      cases hr with
      | d _ _ q => exact ⟨x, hx, q⟩
    refine .p b k (ds.drop k) (fun j => (xs[k + j]?).getD undef) (fun j d _ => by rw [hO', if_pos rfl]) (fun j d hj => ?_) (fun j d hj => ?_)
    · rw [List.getElem?_drop] at hj
      obtain ⟨x, hx, _⟩ := key (k + j) d hj
      rw [hx]; exact cellOf hb hx
    · rw [List.getElem?_drop] at hj
      obtain ⟨x, hx, hr⟩ := key (k + j) d hj
      rw [hx]; exact hr.mono hkk)
  exact hc O' H a w hst'
end
end Go.Eng

set_option linter.unusedSimpArgs false
set_option linter.unnecessarySimpa false
set_option linter.unusedVariables false
namespace Go.Eng
open Go.RowKit (Below)

section
variable {P : Program} {B : Nat} {o : Oper} {e : Env} {M : Mem} {s : S}

/-- An element's place in a window. -/
theorem OpSem.idxw {t k h lo len : Nat} {x i : Operand} {kk : IntKind} {n : Int} (ho : o.op = .indexAddr t x i) (hx : opS e x = some (.w h k lo len)) (hi : opS e i = some (.d (.v (.int kk n))))
    (ht : esz P t = some k) (h0 : 0 ≤ n) (h1 : n < len) : OpSem P B o e M (.q h k (lo + n.toNat) 0) none :=
  .value fun O H a w hs hm => by
    have hx' := hs x (by simp [ho, Op.operands]) _ hx
    have hi' := hs i (by simp [ho, Op.operands]) _ hi
    generalize hv : a.eval x = v at hx'
    generalize hu : a.eval i = u at hi'
    cases hi' with
    | d _ _ hi' =>
      cases hi' with
      | v _ =>
        cases hx' with
        | w h b k lo len L C hH hl =>
          refine ⟨.pointer (some ⟨b, (lo + n.toNat) * k + 0, none⟩), ?_, .q h b k (lo + n.toNat) 0 L C hH⟩
          have := run_idx (P := P) (b := b) (off := lo * k) (cap := C - lo) (kk := kk) ht h0 h1 w
          have e1 : lo * k + n.toNat * k = (lo + n.toNat) * k + 0 := by rw [Nat.add_mul]; rfl
          rw [e1] at this
          simp [execOp, ho, hv, hu, this]

theorem OpSem.lenw {x : Operand} {t k h lo len : Nat} (ho : o.op = .call { callee := .builtin .len, args := #[x], argTypes := #[t] }) (hx : opS e x = some (.w h k lo len)) (ht : esz P t = some k) :
    OpSem P B o e M (.d (.v (.int .i64 len))) none :=
  .value fun O H a w hs hm => by
    have hx' := hs x (by simp [ho, Op.operands, Call.operands]) _ hx
    generalize hv : a.eval x = v at hx'
    cases hx' with
    | w h b k lo len L C hH hl =>
      exact ⟨_, by simp [execOp, ho, resolve, invoke, builtin, hv, run_len_slice w t _ _ _ _ (esz_spec ht).1, goInt], .d _ _ (.v _)⟩

/-- A row of the call's own slice, read. -/
theorem OpSem.loadqN {t : TypeId} {x : Operand} {h k T i : Nat} {rows : List (List D)} {r : List D} (ho : o.op = .load t x) (hx : opS e x = some (.q h k i 0)) (hM : look M h = some (.own k T rows))
    (ht : vsz P t = some (true, k)) (hi : rows[i]? = some r) : OpSem P B o e M (.g (r.map .d)) none :=
  .value fun O H a w hs hm => by
    have hr := hs x (by simp [ho, Op.operands]) _ hx
    generalize hv : a.eval x = v at hr
    cases hr with
    | q h b k i j len cap hH =>
      rcases hm h _ hM with ⟨h0, _⟩ | ⟨b', cap', xs, hH', _, _, hb, _, _, hsz, hw, hc⟩
      · rw [h0] at hH; cases hH
      · rw [hH] at hH'
        simp only [Value.slice.injEq, Option.some.injEq, Addr.mk.injEq, and_true] at hH'
        obtain ⟨rfl, _, _⟩ := hH'
        have hrk : r.length = k := hw r (List.mem_of_getElem? hi)
        have key : ∀ j, j < k → ∃ x d, r[j]? = some d ∧ xs[i * k + j]? = some x ∧ RepD O w x d ∧ x.oneCell' = true := fun j hj => by
          have hd := List.getElem?_eq_getElem (l := r) (i := j) (by omega)
          obtain ⟨x, h1, h2, h3⟩ := hc i r j _ hi hd
          exact ⟨x, _, hd, h1, h2, h3⟩
        have hl : ((xs.toList.drop (i * k)).take k).length = k := by
          have : k = 0 ∨ i * k + k ≤ xs.size := by
            by_cases hk0 : k = 0
            · exact .inl hk0
            · obtain ⟨x, d, _, h1, _⟩ := key (k - 1) (by omega)
              have := (Array.getElem?_eq_some_iff.1 h1).1
              exact .inr (by omega)
          rcases this with h | h
          · simp [h]
          · simp; omega
        refine ⟨.agg ((xs.toList.drop (i * k)).take k).toArray, ?_, .g _ _ (by simp [hl, hrk]) (fun z hz => ?_) (fun j z s hz hs => ?_)⟩
        · have := run_loadVarN (P := P) (t := t) (xs := (xs.toList.drop (i * k)).take k) (by rw [hl]; exact ht) (w := w) (b := b) (off := i * k + 0) (fun j v hj => by
            have hjn : j < k := by have := (List.getElem?_eq_some_iff.1 hj).1; omega
            rw [List.getElem?_take_of_lt hjn, List.getElem?_drop] at hj
            exact cellOf hb (by simpa using hj))
          simp only [execOp, ho, Instr.loadAt, Instr.sureAddr, hv]
          simp only [Sem.run_bind, Sem.run_pure, Result.andThen_ok, this]
        · obtain ⟨j, hj⟩ := List.getElem?_of_mem hz
          have hjn : j < k := by have := (List.getElem?_eq_some_iff.1 hj).1; omega
          rw [List.getElem?_take_of_lt hjn, List.getElem?_drop] at hj
          obtain ⟨y, d, _, hy, _, h1⟩ := key j hjn
          have : z = y := by simpa [hy] using hj.symm
          rw [this]; exact h1
        · have hjn : j < k := by have := (List.getElem?_eq_some_iff.1 hz).1; omega
          rw [List.getElem?_take_of_lt hjn, List.getElem?_drop] at hz
          obtain ⟨y, d, hd, hy, hr, _⟩ := key j hjn
          have : z = y := by simpa [hy] using hz.symm
          rw [this]
          rw [List.getElem?_map, hd] at hs
          simp at hs
          subst hs
          exact .d _ _ hr

/-- Cells laid over a row. -/
theorem MHold.setCells {O : Nat → Nat} {H : Nat → Value} {w : World} {h k T b cap lo : Nat} {xs : Array Value} {rows new : List (List D)} {vs : List Value} (hH : H h = .slice (some ⟨b, 0, none⟩) rows.length cap) (hB : B ≤ b) (hO : O b = h + 1) (hb : w.heap[b]? = some (.cells xs T (0, 0))) (hlc : rows.length ≤ cap) (hcm : cap ≤ maxLen) (hsz : xs.size = cap * k)
    (hw : ∀ r, r ∈ rows → r.length = k) (hc : ∀ (i : Nat) (r : List D) (j : Nat) (d : D), rows[i]? = some r → r[j]? = some d → ∃ x, xs[i * k + j]? = some x ∧ RepD O w x d ∧ x.oneCell' = true)
    (hlen : lo + new.length ≤ rows.length) (hvs : vs.length = new.length * k) (hnw : ∀ r, r ∈ new → r.length = k)
    (hn : ∀ (i : Nat) (r : List D) (j : Nat) (d : D), new[i]? = some r → r[j]? = some d → ∃ x, vs[i * k + j]? = some x ∧ RepD O w x d ∧ x.oneCell' = true) (hone : ∀ v, v ∈ vs → v.oneCell' = true) :
    Keep (some h) none O H w O H (w.setRow b (xs.toList.take (lo * k) ++ vs ++ xs.toList.drop (lo * k + vs.length)).toArray) ∧ Below B w (w.setRow b (xs.toList.take (lo * k) ++ vs ++ xs.toList.drop (lo * k + vs.length)).toArray) ∧
      MHold O H B (w.setRow b (xs.toList.take (lo * k) ++ vs ++ xs.toList.drop (lo * k + vs.length)).toArray) h (.own k T (rows.take lo ++ new ++ rows.drop (lo + new.length))) := by
  have hk' := Keep.setRow (O := O) (H := H) (w := w) (cs := (xs.toList.take (lo * k) ++ vs ++ xs.toList.drop (lo * k + vs.length)).toArray) hO
  have hfit : lo * k + vs.length ≤ xs.size := by
    rw [hvs, hsz, ← Nat.add_mul]
    exact Nat.mul_le_mul_right k (by omega)
  have hln : (rows.take lo ++ new ++ rows.drop (lo + new.length)).length = rows.length := by simp; omega
  refine ⟨hk', Below.setRow hB, .inr ⟨b, cap, _, by rw [hln]; exact hH, hB, hO, setRow_heap w b xs _ T _ hb, by rw [hln]; exact hlc, hcm, ?_, fun r hr => ?_, fun i r j d hi hj => ?_⟩⟩
  · simp only [List.size_toArray, List.length_append, List.length_take, List.length_drop, Array.length_toList]
    rw [← hsz]; omega
  · simp only [List.mem_append] at hr
    rcases hr with (hr | hr) | hr
    · exact hw r (List.mem_of_mem_take hr)
    · exact hnw r hr
    · exact hw r (List.mem_of_mem_drop hr)
  · have hrl : r.length = k := by
      have hr := List.mem_of_getElem? hi
      simp only [List.mem_append] at hr
      rcases hr with (hr | hr) | hr
      · exact hw r (List.mem_of_mem_take hr)
      · exact hnw r hr
      · exact hw r (List.mem_of_mem_drop hr)
    have hjk : j < k := by rw [← hrl]; exact (List.getElem?_eq_some_iff.1 hj).1
    have hkeep : Keeps O w O (w.setRow b (xs.toList.take (lo * k) ++ vs ++ xs.toList.drop (lo * k + vs.length)).toArray) := hk'.keeps
    by_cases h1 : i < lo
    · have hi' : rows[i]? = some r := by
        rw [List.append_assoc, List.getElem?_append_left (by simp; omega), List.getElem?_take_of_lt h1] at hi
        exact hi
      obtain ⟨x, hx, hr, ho⟩ := hc i r j d hi' hj
      refine ⟨x, ?_, hr.mono hkeep, ho⟩
      have hlt : i * k + j < lo * k := by
        have := Nat.mul_le_mul_right k (show i + 1 ≤ lo by omega)
        rw [Nat.add_mul] at this
        omega
      have hb2 : i * k + j < xs.size := by omega
      simp only [List.getElem?_toArray]
      rw [List.append_assoc, List.getElem?_append_left (by simp; omega), List.getElem?_take_of_lt hlt]
      simpa using hx
    · by_cases h2 : i < lo + new.length
      · have hi' : new[i - lo]? = some r := by
          rw [List.append_assoc, List.getElem?_append_right (by simp; omega), List.getElem?_append_left (by simp; omega)] at hi
          rw [← hi]; congr 1; simp; omega
        obtain ⟨x, hx, hr, ho⟩ := hn (i - lo) r j d hi' hj
        refine ⟨x, ?_, hr.mono hkeep, ho⟩
        have e1 : i * k + j = lo * k + ((i - lo) * k + j) := by
          rw [← Nat.add_assoc, ← Nat.add_mul]; congr 2; omega
        simp only [List.getElem?_toArray]
        have hxl := (List.getElem?_eq_some_iff.1 hx).1
        rw [e1, List.append_assoc, List.getElem?_append_right (by simp; omega), List.getElem?_append_left (by simp; omega)]
        rw [← hx]; congr 1; simp; omega
      · have hi' : rows[i]? = some r := by
          rw [List.getElem?_append_right (by simp; omega), List.getElem?_drop] at hi
          rw [← hi]; congr 1; simp; omega
        obtain ⟨x, hx, hr, ho⟩ := hc i r j d hi' hj
        refine ⟨x, ?_, hr.mono hkeep, ho⟩
        have hge : lo * k + vs.length ≤ i * k + j := by
          have := Nat.mul_le_mul_right k (show lo + new.length ≤ i by omega)
          rw [Nat.add_mul] at this
          omega
        simp only [List.getElem?_toArray]
        rw [List.getElem?_append_right (by simp; omega), List.getElem?_drop]
        have e2 : lo * k + vs.length + (i * k + j - (List.take (lo * k) xs.toList ++ vs).length) = i * k + j := by simp; omega
        rw [e2]
        simpa using hx

theorem zeroFlat {zs : List Value} {k : Nat} (hzk : zs.length = k) : ∀ n, (List.range (n * k)).map (fun i => zs.toArray[i % k]!) = (List.replicate n zs).flatten
  | 0 => by simp
  | n + 1 => by
    rw [List.replicate_succ, List.flatten_cons, Nat.succ_mul, Nat.add_comm, List.range_add, List.map_append, List.map_map]
    congr 1
    · apply List.ext_getElem?
      intro i
      by_cases hi : i < k
      · simp [hi, hzk, getElem!_def, List.getElem?_eq_getElem (by omega : i < zs.length), Nat.mod_eq_of_lt hi]
      · rw [List.getElem?_eq_none (by simp; omega), List.getElem?_eq_none (by omega)]
    · rw [← zeroFlat hzk n]
      apply List.map_congr_left
      intro i _
      simp

/-- clear of a window. -/
theorem OpSt.clearW {t k T h lo len : Nat} {x : Operand} {rows : List (List D)} {zs : List Value} (ho : o.op = .call { callee := .builtin .clear, args := #[x], argTypes := #[t] }) (hx : opS e x = some (.w h k lo len)) (ht : esz P t = some k)
    (hz : zcells P (P.elem t) = some zs) (h1 : zs.all Value.oneCell' = true) (hzk : zs.length = k) (hk0 : 0 < k) (hlen : lo + len ≤ rows.length) :
    OpSt P B o e h (.own k T rows) (.own k T (rows.take lo ++ List.replicate len (zs.map .v) ++ rows.drop (lo + len))) (.t []) := by
  intro O H a w hB hs hm K hK
  have hx' := hs x (by simp [ho, Op.operands, Call.operands]) _ hx
  generalize hv : a.eval x = v at hx'
  cases hx' with
  | w h b k lo len L C hH hl =>
    have hrunE : (execOp a.eval o).run P w = ((Builtin.clear_ #[t] o.type #[.slice (some ⟨b, lo * k, none⟩) len (C - lo)]).run P w).andThen fun v w' => .ok (.value v) w' := by
      simp [execOp, ho, resolve, invoke, builtin, hv]
    have hrt : RepS O H w (.tuple #[]) (.t []) := .t [] [] rfl (fun i x s h => by simp at h)
    rcases hm with ⟨h0, rfl⟩ | ⟨b', cap, xs, hH', hBb, hO, hb, hlc, hcm, hsz, hw, hc⟩
    · rw [h0] at hH; cases hH
    · rw [hH] at hH'
      simp only [Value.slice.injEq, Option.some.injEq, Addr.mk.injEq, and_true] at hH'
      obtain ⟨rfl, rfl, rfl⟩ := hH'
      unfold Oper.wp
      rw [hrunE]
      by_cases hl0 : len = 0
      · subst hl0
        have : (Builtin.clear_ #[t] o.type #[.slice (some ⟨b, lo * k, none⟩) 0 (C - lo)]).run P w = .ok (.tuple #[]) w := by
          simp [Builtin.clear_, run_underlying (esz_spec ht).1]
        rw [this]
        refine hK w _ (.refl _ _ _ _ _) (.refl _ _) ?_ hrt
        simp only [List.replicate_zero, List.append_nil, Nat.add_zero, List.take_append_drop]
        exact .inr ⟨b, C, xs, hH, hBb, hO, hb, hlc, hcm, hsz, hw, hc⟩
      · obtain ⟨z, hz1, hz2⟩ := run_zero hz w
        have hzc : (Builtin.zeroCells z.cells len).toList = (List.replicate len zs).flatten := by
          rw [hz2]
          unfold Builtin.zeroCells
          simp only [Array.toList_map, Array.toList_range, List.size_toArray]
          rw [hzk]
          exact zeroFlat hzk len
        have hz0 := List.all_eq_true.1 h1
        have hflen : ∀ n, ((List.replicate n zs).flatten).length = n * k := fun n => by simp [hzk]
        have hone : ∀ v, v ∈ (List.replicate len zs).flatten → v.oneCell' = true := fun v hv => by
          rw [List.mem_flatten] at hv
          obtain ⟨l, hl, hvl⟩ := hv
          rw [List.mem_replicate] at hl
          exact hz0 v (hl.2 ▸ hvl)
        obtain ⟨c1, c2, c3⟩ := MHold.setCells (new := List.replicate len (zs.map .v)) (vs := (List.replicate len zs).flatten) (lo := lo) hH hBb hO hb hlc hcm hsz hw hc (by simpa using hlen) (by rw [hflen]; simp) (fun r hr => by rw [List.mem_replicate] at hr; rw [hr.2]; simp [hzk]) (fun i r j d hi hj => by
          rw [List.getElem?_replicate] at hi
          split at hi
          · rename_i hil
            simp only [Option.some.injEq] at hi
            subst hi
            simp only [List.getElem?_map, Option.map_eq_some_iff] at hj
            obtain ⟨v, hv, rfl⟩ := hj
            have hjk : j < k := by rw [← hzk]; exact (List.getElem?_eq_some_iff.1 hv).1
            refine ⟨v, ?_, .v v, hz0 v (List.mem_of_getElem? hv)⟩
            have : ∀ (n i : Nat), i < n → ((List.replicate n zs).flatten)[i * k + j]? = some v := by
              intro n
              induction n with
              | zero => intro i hi; omega
              | succ n ih =>
                intro i hi
                rw [List.replicate_succ, List.flatten_cons]
                cases i with
                | zero => rw [List.getElem?_append_left (by omega)]; simpa using hv
                | succ i =>
                  rw [List.getElem?_append_right (by rw [hzk, Nat.succ_mul]; omega), ← ih i (by omega)]
                  congr 1
                  rw [hzk, Nat.succ_mul]; omega
            exact this len i hil
          · cases hi) hone
        have hfit : lo * k + ((List.replicate len zs).flatten).length ≤ xs.size := by
          rw [hflen, hsz, ← Nat.add_mul]
          exact Nat.mul_le_mul_right k (by omega)
        have hst := run_storeCells_at P b (lo * k) T ((List.replicate len zs).flatten) 0 xs w hb (by simpa using hfit) hone
        have : (Builtin.clear_ #[t] o.type #[.slice (some ⟨b, lo * k, none⟩) len (C - lo)]).run P w = .ok (.tuple #[]) (w.setRow b (xs.toList.take (lo * k) ++ (List.replicate len zs).flatten ++ xs.toList.drop (lo * k + ((List.replicate len zs).flatten).length)).toArray) := by
          simp only [Nat.add_zero] at hst
          simp only [Builtin.clear_]
          simp [run_underlying (esz_spec ht).1, hz1, hzc, hst, hl0]
        rw [this]
        refine hK _ _ c1 c2 ?_ (hrt.mono0 c1)
        simpa using c3
end
end Go.Eng
end

section
/- The engine, part 18: callees that write an argument. -/

set_option linter.unusedSimpArgs false
set_option linter.unnecessarySimpa false
set_option linter.unusedVariables false
namespace Go.Eng
open Go.RowKit (Below)

/-- The exact value of what a slot holds, where it is known. -/
def valS (H : Nat → Value) : Nat → S → Option Value
  | 0, _ => none
  | n + 1, s => match s with
    | .d (.v x) => some x
    | .o h => some (H h)
    | .g cs => (cs.mapM (valS H n)).map fun l => .agg l.toArray
    | .t cs => (cs.mapM (valS H n)).map fun l => .tuple l.toArray
    | .f fn [] [] => some (.func (.func fn) #[] #[])
    | _ => none
theorem valS_list {O : Nat → Nat} {H : Nat → Value} {w : World} {f : S → Option Value} : ∀ {xs : List Value} {ss : List S} {ys : List Value}, xs.length = ss.length →
    (∀ (i : Nat) (x : Value) (s : S) (y : Value), xs[i]? = some x → ss[i]? = some s → f s = some y → x = y) → ss.mapM f = some ys → xs = ys := by
  intro xs ss ys hl h hm
  obtain ⟨m1, m2⟩ := mapM_some hm
  refine List.ext_getElem (by rw [hl, m1]) fun i h1 h2 => ?_
  exact h i _ _ _ (List.getElem?_eq_getElem h1) (List.getElem?_eq_getElem (by omega)) (m2 i _ _ (List.getElem?_eq_getElem (by omega)) (List.getElem?_eq_getElem h2))
theorem valS_rep {O : Nat → Nat} {H : Nat → Value} {w : World} : ∀ (n : Nat) {x y : Value} {s : S}, RepS O H w x s → valS H n s = some y → x = y
  | 0, _, _, _, _, h => by simp [valS] at h
  | n + 1, x, y, s, hr, h => by
    cases hr with
    | d x d hd =>
      cases hd with
      | v x => simpa [valS] using h
      | e => simp [valS] at h
      | s => simp [valS] at h
    | g xs ss hl h1 hg =>
      simp only [valS, Option.map_eq_some_iff] at h
      obtain ⟨l, hl', rfl⟩ := h
      rw [valS_list (O := O) (H := H) (w := w) hl (fun i x s y hx hs hv => valS_rep n (hg i x s hx hs) hv) hl']
    | t xs ss hl hg =>
      simp only [valS, Option.map_eq_some_iff] at h
      obtain ⟨l, hl', rfl⟩ := h
      rw [valS_list (O := O) (H := H) (w := w) hl (fun i x s y hx hs hv => valS_rep n (hg i x s hx hs) hv) hl']
    | o h' h1 => simpa [valS] using h
    | f fn xs ys fs cs hl hl' hx hy =>
      cases fs with
      | nil =>
        cases cs with
        | nil =>
          cases xs with
          | nil =>
            cases ys with
            | nil => simpa [valS] using h
            | cons => simp at hl'
          | cons => simp at hl
        | cons => simp [valS] at h
      | cons => simp [valS] at h
    | p => simp [valS] at h
    | r => simp [valS] at h
    | q => simp [valS] at h
    | w => simp [valS] at h
    | a => simp [valS] at h
    | c => simp [valS] at h
    | u => simp [valS] at h

/-- Only the block of a slice may have changed. -/
structure Touch (v : Value) (w w' : World) : Prop where
  os : w'.os = w.os
  tape : w'.tape = w.tape
  output : w'.output = w.output
  size : w.heap.size ≤ w'.heap.size
  same : ∀ b, b < w.heap.size → v.ownBlock ≠ some b → w'.heap[b]? = w.heap[b]?

def newBlock (v v' : Value) (w : World) : Prop := v'.ownBlock = none ∨ v'.ownBlock = v.ownBlock ∨ ∃ b, v'.ownBlock = some b ∧ w.heap.size ≤ b

/-- What a function promises that is handed a slice that it may write. -/
structure DoesW (P : Program) (f : Nat) (args : Value → List Value) (res : Value → Value) (k T : Nat) (rows rows' : List (List D)) : Prop where
  can : ∀ xs w, (callFunc f xs).run P w = .ok (.enter f xs) w
  run : ∀ (w : World) (v : Value), OwnVal 0 w v k T rows → Calls P f (args v).toArray w fun en w' => ∃ v', en = .returned (res v') ∧ Touch v w w' ∧ OwnVal 0 w' v' k T rows' ∧ newBlock v v' w
/-- .. and leaves the slice's value as it is. -/
structure DoesWS (P : Program) (f : Nat) (args : Value → List Value) (res : Value) (k T : Nat) (rows rows' : List (List D)) : Prop where
  can : ∀ xs w, (callFunc f xs).run P w = .ok (.enter f xs) w
  run : ∀ (w : World) (v : Value), OwnVal 0 w v k T rows → Calls P f (args v).toArray w fun en w' => en = .returned res ∧ Touch v w w' ∧ OwnVal 0 w' v k T rows'

def plainB (rows : List (List D)) : Bool := rows.all fun r => r.all fun d => match d with | .v _ => true | _ => false

theorem MHold.ownVal {O : Nat → Nat} {H : Nat → Value} {B : Nat} {w : World} {h k T : Nat} {rows : List (List D)} (hm : MHold O H B w h (.own k T rows)) (hp : plainB rows = true) : OwnVal B w (H h) k T rows := by
  rcases hm with ⟨h0, rfl⟩ | ⟨b, cap, xs, hH, hB, hO, hb, hlc, hcm, hsz, hw, hc⟩
  · exact .inl ⟨h0, rfl⟩
  · refine .inr ⟨b, cap, xs, hH, hB, hb, hlc, hcm, hsz, hw, fun i r j d hi hj => ?_⟩
    obtain ⟨x, hx, hr, h1⟩ := hc i r j d hi hj
    have := List.all_eq_true.1 (List.all_eq_true.1 hp r (List.mem_of_getElem? hi)) d (List.mem_of_getElem? hj)
    cases hr with
    | v _ => exact ⟨x, hx, rfl, h1⟩
    | _ => simp at this
theorem OwnVal.weak {B B' : Nat} {w : World} {x : Value} {k T : Nat} {rows : List (List D)} (h : OwnVal B w x k T rows) (hB : B' ≤ B) : OwnVal B' w x k T rows := by
  rcases h with h | ⟨b, cap, xs, h1, h2, h3⟩
  · exact .inl h
  · exact .inr ⟨b, cap, xs, h1, by omega, h3⟩
theorem MHold.label {O : Nat → Nat} {H : Nat → Value} {B : Nat} {w : World} {h k T : Nat} {rows : List (List D)} (hm : MHold O H B w h (.own k T rows)) {b : Nat} (hb : (H h).ownBlock = some b) : O b = h + 1 ∧ B ≤ b ∧ b < w.heap.size := by
  rcases hm with ⟨h0, rfl⟩ | ⟨b', cap, xs, hH, hB, hO, hb', _⟩
  · rw [h0] at hb; cases hb
  · rw [hH] at hb
    simp only [Value.ownBlock, Option.some.injEq] at hb
    subst hb
    exact ⟨hO, hB, (Array.getElem?_eq_some_iff.1 hb').1⟩

theorem callW_core {O : Nat → Nat} {H : Nat → Value} {B : Nat} {w w' : World} {h k T : Nat} {rows rows' : List (List D)} {v' : Value} (hm : MHold O H B w h (.own k T rows)) (hB : B ≤ w.heap.size) (ht : Touch (H h) w w') (hv : OwnVal 0 w' v' k T rows') (hn : newBlock (H h) v' w) :
    ∃ O' H', H' h = v' ∧ v'.oneCell' = true ∧ Keep (some h) (some h) O H w O' H' w' ∧ Below B w w' ∧ MHold O' H' B w' h (.own k T rows') := by
  refine ⟨fun b => if b < w.heap.size then O b else h + 1, fun n => if n = h then v' else H n, by simp, ?_, ⟨fun b hb => by simp [hb], fun b hb hne => ht.same b hb fun e => ?_, fun n hn => ?_⟩, ⟨ht.os, ht.tape, ht.output, ht.size, fun b hb => ht.same b (by omega) fun e => ?_⟩, ?_⟩
  · rcases hv with ⟨rfl, _⟩ | ⟨b, cap, xs, rfl, _⟩ <;> rfl
  · exact hne h rfl (hm.label e).1
  · have : n ≠ h := fun e => hn (by rw [e])
    simp [this]
  · have := (hm.label e).2.1; omega
  · rcases hv with ⟨rfl, rfl⟩ | ⟨b, cap, xs, rfl, _, hb, hlc, hcm, hsz, hw, hc⟩
    · exact .inl ⟨by simp, rfl⟩
    · refine .inr ⟨b, cap, xs, by simp, ?_, ?_, hb, hlc, hcm, hsz, hw, fun i r j d hi hj => ?_⟩
      · rcases hn with hn | hn | ⟨b', hn, hb'⟩
        · cases hn
        · exact (hm.label hn.symm).2.1
        · simp only [Value.ownBlock, Option.some.injEq] at hn; omega
      · rcases hn with hn | hn | ⟨b', hn, hb'⟩
        · cases hn
        · have := hm.label hn.symm
          simp [this.1, this.2.2]
        · simp only [Value.ownBlock, Option.some.injEq] at hn
          subst hn
          have : ¬ b < w.heap.size := by omega
          simp [this]
      · obtain ⟨x, hx, rfl, h1⟩ := hc i r j d hi hj
        exact ⟨x, hx, .v x, h1⟩

section
variable {P : Program} {N : Nat} {w0 : World} {O0 : Nat → Nat} {ops : Array Oper} {Q : Post} {e : Env} {M : Mem} {rest : List Oper} {o : Oper} {s : S} {B : Nat}

theorem argsEq {a : Act} {O : Nat → Nat} {H : Nat → Value} {w : World} {as_ : Array Operand} {l : List S} {ys : List Value} (hs : ∀ x, x ∈ as_ → ∀ s, opS e x = some s → RepS O H w (a.eval x) s) (ha : opsS e as_.toList = some l) (hv : l.mapM (valS H 9) = some ys) : as_.toList.map a.eval = ys := by
  obtain ⟨a1, a2⟩ := opsS_rep (O := O) (H := H) (w := w) (a := a) as_.toList l ha (fun x hx s hs' => hs x (by simpa using hx) s hs')
  exact valS_list (O := O) (H := H) (w := w) (by simpa using a1) (fun i x s y hx hs hv => valS_rep 9 (a2 i x s hx hs) hv) hv

theorem run_callW {a : Act} {w : World} {fn : Nat} {g : Operand} {as_ : Array Operand} {ts : Array TypeId} {ys : List Value} (can : ∀ xs w, (callFunc fn xs).run P w = .ok (.enter fn xs) w) (ho : o.op = .call { callee := .value g, args := as_, argTypes := ts }) (hg : a.eval g = .func (.func fn) #[] #[]) (ha : as_.toList.map a.eval = ys) :
    (execOp a.eval o).run P w = .ok (.enter fn ys.toArray) w := by
  have := run_call (o := o) (xs := []) (zs := []) can a w g as_ ts ho hg ha
  simpa using this

/-- A call that writes a slice of the caller's own in place. -/
theorem OpSt.callWS {h fn k T : Nat} {g : Operand} {as_ : Array Operand} {ts : Array TypeId} {rows rows' : List (List D)} {args : Value → List Value} {res : Value} {l : List S} (hspec : DoesWS P fn args res k T rows rows')
    (ho : o.op = .call { callee := .value g, args := as_, argTypes := ts }) (hg : opS e g = some (.f fn [] [])) (ha : opsS e as_.toList = some l) (hv : ∀ H, l.mapM (valS H 9) = some (args (H h))) (hp : plainB rows = true) (hr : ∀ O H w, RepS O H w res s) :
    OpSt P B o e h (.own k T rows) (.own k T rows') s := by
  intro O H a w hB hs hm K hK
  have hg' : a.eval g = .func (.func fn) #[] #[] := valS_rep 9 (hs g (by simp [ho, Op.operands, Call.operands]) _ hg) rfl
  have hargs := argsEq (a := a) (O := O) (H := H) (w := w) (as_ := as_) (fun x hx s hs' => hs x (by simp only [ho, Op.operands, Call.operands]; simpa using .inr hx) s hs') ha (hv H)
  unfold Oper.wp
  rw [run_callW hspec.can ho hg' hargs]
  refine (hspec.run w (H h) ((hm.ownVal hp).weak (Nat.zero_le _))).mono ?_
  rintro en w' ⟨rfl, ht, hv'⟩
  have hk : Keep (some h) none O H w O H w' := ⟨fun _ _ => rfl, fun b hb hne => ht.same b hb fun e => hne h rfl (hm.label e).1, fun _ _ => rfl⟩
  refine hK w' _ hk ⟨ht.os, ht.tape, ht.output, ht.size, fun b hb => ht.same b (by omega) fun e => ?_⟩ ?_ (hr _ _ _)
  · have := (hm.label e).2.1; omega
  · rcases hv' with ⟨h0, rfl⟩ | ⟨b, cap, xs, h0, _, hb, hlc, hcm, hsz, hw, hc⟩
    · exact .inl ⟨h0, rfl⟩
    · have hl := hm.label (b := b) (by rw [h0]; rfl)
      refine .inr ⟨b, cap, xs, h0, hl.2.1, hl.1, hb, hlc, hcm, hsz, hw, fun i r j d hi hj => ?_⟩
      obtain ⟨x, hx, rfl, h1⟩ := hc i r j d hi hj
      exact ⟨x, hx, .v x, h1⟩

/-- A call that writes a slice of the caller's own and hands back another one in its place. -/
theorem TrOps.callW {h d fn k T : Nat} {g : Operand} {as_ : Array Operand} {ts : Array TypeId} {rows rows' : List (List D)} {args : Value → List Value} {res : Value → Value} {l : List S} (hspec : DoesW P fn args res k T rows rows')
    (ho : o.op = .call { callee := .value g, args := as_, argTypes := ts }) (hgd : o.guard = none) (hd : o.dst = some d) (hdN : d < N) (hg : opS e g = some (.f fn [] [])) (ha : opsS e as_.toList = some l) (hM : look M h = some (.own k T rows)) (hv : ∀ H, l.mapM (valS H 9) = some (args (H h))) (hp : plainB rows = true)
    (hr : ∀ O (H : Nat → Value) w, (H h).oneCell' = true → RepS O H w (res (H h)) s) (hn : TrOps P N w0 O0 ops Q ((d, s) :: kill h e) ((h, .own k T rows') :: killM h M) rest) : TrOps P N w0 O0 ops Q e M (o :: rest) := by
  intro O H a w hst
  have hm := hst.mem h _ hM
  refine wpList_plain hgd fun K hK => Oper.wp_false ?_ Q
  have hg' : a.eval g = .func (.func fn) #[] #[] := valS_rep 9 (hst.slotsAt #[g] g (by simp) _ hg) rfl
  have hargs := argsEq (a := a) (O := O) (H := H) (w := w) (as_ := as_) (fun x hx s hs' => hst.slotsAt as_ x hx s hs') ha (hv H)
  unfold Oper.wp
  rw [run_callW hspec.can ho hg' hargs]
  refine (hspec.run w (H h) ((hm.ownVal hp).weak (Nat.zero_le _))).mono ?_
  rintro en w' ⟨v', rfl, ht, hv', hnb⟩
  obtain ⟨O', H', h1, h2, hk, hb, hmm⟩ := callW_core hm hst.size ht hv' hnb
  have hrx := hr O' H' w' (by rw [h1]; exact h2)
  rw [h1] at hrx
  have hsz := hst.size
  refine hK _ _ (hn O' H' _ _ ⟨?_, ?_, hst.bl.trans (hb.mono (Nat.le_refl _)), fun b hb' => (hk.lab b (by omega)).trans (hst.lab b hb'), ?_, fun h' m hm' => ?_⟩)
  · rw [hd]; exact hst.df
  · rw [hd]; simp [Act.put, hst.sz]
  · rw [hd]
    refine put_slots hst.sz hdN hrx fun n s hs => ?_
    obtain ⟨s', hs', hor⟩ := look_kill hs
    obtain ⟨y, hy, hr⟩ := hst.slots n s' hs'
    rcases hor with ⟨hok, rfl⟩ | rfl
    · exact ⟨y, hy, hr.mono hk 9 (fun h he => by cases he; exact hok) (.inr (by omega))⟩
    · exact ⟨y, hy, .u y⟩
  · rcases look_cons hm' with ⟨rfl, rfl⟩ | ⟨hne, hm'⟩
    · exact hmm
    · obtain ⟨m', hm2, hor⟩ := look_killM hm'
      rcases hor with rfl | ⟨hn', rfl⟩
      · trivial
      · exact ((hst.mem h' m' hm2).kill (h := h)).mono hk (by simp; omega) (by simp; omega) 9 (fun h1 he => by cases he; exact Mo.kill_ok _ m') (.inr (by omega))

/-- What was there when the call began, but for one block. -/
def frK (Oc : Nat → Nat) (W : World) : Kr := {
  q O w _ := Keeps Oc W O w
  mono := fun O w O' w' x hk h => h.trans hk }

def RetW (Oc : Nat → Nat) (W : World) (res : Value → Value) (k T : Nat) (rows : List (List D)) : Ending → World → Prop :=
  fun en w' => ∃ v' O', en = .returned (res v') ∧ w'.os = W.os ∧ w'.tape = W.tape ∧ w'.output = W.output ∧ Keeps Oc W O' w' ∧ OwnVal 0 w' v' k T rows ∧ ∀ b, v'.ownBlock = some b → O' b = 1

theorem DoesW.of_body {f : Nat} {args : Value → List Value} {res : Value → Value} {k T : Nat} {rows rows' : List (List D)} {as_ : List S} {fn : Func} {c : Code} (hf : P.funcs[f]? = some fn) (hb : fn.body = some c) (hN : fn.ntmps = N) (hlen : as_.length ≤ N)
    (can : ∀ xs w, (callFunc f xs).run P w = .ok (.enter f xs) w) (hal : ∀ v, (args v).length = as_.length) (hrep : ∀ O (H : Nat → Value) w, (H 0).oneCell' = true → ∀ (i : Nat) (x : Value) (s : S), (args (H 0))[i]? = some x → as_[i]? = some s → RepS O H w x s)
    (hne : rows ≠ []) (hne' : rows' ≠ [])
    (h : ∀ (O0 : Nat → Nat) (Oc : Nat → Nat) (W : World), Tr P N { W with heap := #[] } O0 (entry 0 as_) [(0, .own k T rows), (1000, .fr (frK Oc W))] c (bodyPost P fn (RetW Oc W res k T rows'))) : DoesW P f args res k T rows rows' := by
  refine ⟨can, fun w v hv => ?_⟩
  have h1c : v.oneCell' = true := by rcases hv with ⟨rfl, _⟩ | ⟨b, cap, xs, rfl, _⟩ <;> rfl
  obtain ⟨Oc, hOc⟩ : ∃ Oc : Nat → Nat, Oc = fun b => if v.ownBlock = some b then 1 else 0 := ⟨_, rfl⟩
  refine (calls_of_wp hf hb (h Oc Oc w Oc (fun _ => v) _ w ⟨rfl, ?_, ⟨rfl, rfl, rfl, Nat.zero_le _, fun k hk => absurd hk (Nat.not_lt_zero k)⟩, fun b hb => absurd hb (Nat.not_lt_zero b), fun n s hs => ?_, fun n m hm => ?_⟩)).mono ?_
  · have := hal v
    simp; omega
  · obtain ⟨_, hn⟩ := look_entry as_ 0 n s hs
    simp only [Nat.sub_zero] at hn
    have hlt : n < (args v).length := by rw [hal]; exact (List.getElem?_eq_some_iff.1 hn).1
    refine ⟨(args v)[n], ?_, hrep Oc (fun _ => v) w h1c n _ s (List.getElem?_eq_getElem hlt) hn⟩
    rw [Array.getElem?_append_left (by simpa using hlt)]
    simp [hlt]
  · rcases look_cons hm with ⟨rfl, rfl⟩ | ⟨_, hm⟩
    · rcases hv with ⟨h0, rfl⟩ | ⟨b, cap, xs, h0, _, hb, hlc, hcm, hsz, hw, hc⟩
      · exact .inl ⟨h0, rfl⟩
      · refine .inr ⟨b, cap, xs, h0, Nat.zero_le _, by rw [hOc, h0]; simp [Value.ownBlock], hb, hlc, hcm, hsz, hw, fun i r j d hi hj => ?_⟩
        obtain ⟨x, hx, rfl, h1⟩ := hc i r j d hi hj
        exact ⟨x, hx, .v x, h1⟩
    · rcases look_cons hm with ⟨rfl, rfl⟩ | ⟨_, hm⟩
      · exact fun b _ h => ⟨h, rfl⟩
      · cases hm
  · rintro en w' ⟨v', O', rfl, hos, htp, hout, hk, hv', hlab⟩
    have hsz : w.heap.size ≤ w'.heap.size := by
      rcases hv with ⟨_, h0⟩ | ⟨b, cap, xs, h0, _, hb, _⟩
      · exact absurd h0 hne
      · rcases hv' with ⟨_, h0'⟩ | ⟨b', cap', xs', h0', _, hb', _⟩
        · exact absurd h0' hne'
        · have hl := (Array.getElem?_eq_some_iff.1 hb).1
          have hl' := (Array.getElem?_eq_some_iff.1 hb').1
          by_cases hlast : b = w.heap.size - 1
          · by_cases hbb : b' < w.heap.size
            · by_cases he : b' = b
              · omega
              · have h2 := (hk b' hbb (by rw [hOc]; simp only [h0, Value.ownBlock]; rw [if_neg (by simp; omega)])).1
                have h3 := hlab b' (by rw [h0']; rfl)
                omega
            · omega
          · have h2 := (hk (w.heap.size - 1) (by omega) (by rw [hOc]; simp only [h0, Value.ownBlock]; rw [if_neg (by simp; omega)])).2
            have h3 := h2.trans (Array.getElem?_eq_getElem (show w.heap.size - 1 < w.heap.size by omega))
            have := (Array.getElem?_eq_some_iff.1 h3).1
            omega
    refine ⟨v', rfl, ⟨hos, htp, hout, hsz, fun b hb hne => (hk b hb (by rw [hOc]; simp [hne])).2⟩, hv', ?_⟩
    cases hvb : v'.ownBlock with
    | none => exact .inl hvb
    | some b =>
      by_cases hlt : b < w.heap.size
      · refine .inr (.inl ?_)
        rw [hvb]
        refine (Decidable.byContradiction fun hne => ?_ : v.ownBlock = some b).symm
        have := (hk b hlt (by rw [hOc]; simp [hne])).1
        rw [hlab b hvb] at this
        cases this
      · exact .inr (.inr ⟨b, hvb, by omega⟩)

theorem At.retW {Oc : Nat → Nat} {W : World} {res : Value → Value} {k T : Nat} {rows rows' : List (List D)} {fn : Func} {rs : List ResultVar} {l : List S} (hres : fn.results.toList = rs) (hl : RetL P e M rs l) (hM : look M 0 = some (.own k T rows)) (hK : look M 1000 = some (.fr (frK Oc W))) (hp : plainB rows = true) (hr : rows = rows')
    (hv : ∀ H, valS H 9 (one l) = some (res (H 0))) : At N { W with heap := #[] } O0 e M .ret (bodyPost P fn (RetW Oc W res k T rows')) := by
  subst hr
  intro O H a w hst
  obtain ⟨vs, h1, h2, h3⟩ := hl.run hst
  have hrun : (results fn a.tmps).run P w = .ok (if h : vs.toArray.size = 1 then vs.toArray[0] else .tuple vs.toArray) w := by
    rw [results_rv, Array.mapM_eq_mapM_toList, hres]
    simp only [Sem.run_bind, Sem.run_map, h1, Result.andThen_ok, Sem.run_pure]
  have hrep : RepS O H w (if h : vs.toArray.size = 1 then vs.toArray[0] else .tuple vs.toArray) (one l) := by
    clear hrun hv hl h1
    cases l with
    | nil =>
      cases vs with
      | nil => simpa [one] using RepS.t (O := O) (H := H) (w := w) [] [] rfl h3
      | cons v vs => simp at h2
    | cons s l =>
      cases vs with
      | nil => simp at h2
      | cons v vs =>
        cases l with
        | nil =>
          cases vs with
          | nil => simpa [one] using h3 0 v s rfl rfl
          | cons v2 vs => simp at h2
        | cons s2 l =>
          cases vs with
          | nil => simp at h2
          | cons v2 vs => simpa [one] using RepS.t (O := O) (H := H) (w := w) (v :: v2 :: vs) (s :: s2 :: l) h2 h3
  have hx := valS_rep 9 hrep (hv H)
  have hm := hst.mem 0 _ hM
  refine ⟨hst.df, _, hrun, H 0, O, by rw [hx], hst.bl.os, hst.bl.tape, hst.bl.output, hst.mem 1000 _ hK, (hm.ownVal hp).weak (Nat.zero_le _), fun b hb => (hm.label hb).1⟩
end
end Go.Eng
end

section
/- The engine, part 19: a region whose order is open, where one operation may come late. -/

set_option linter.unusedSimpArgs false
set_option linter.unnecessarySimpa false
set_option linter.unusedVariables false
namespace Go.Eng
open Go.RowKit (Below)

/-- e2 is e without slot d. -/
inductive DropR (d : Nat) : Env → Env → Prop
  | nil : DropR d [] []
  | hit {n : Nat} {s : S} {e e2 : Env} (h : Nat.beq n d = true) : DropR d e e2 → DropR d ((n, s) :: e) e2
  | miss {n : Nat} {s : S} {e e2 : Env} (h : Nat.beq n d = false) : DropR d e e2 → DropR d ((n, s) :: e) ((n, s) :: e2)

section
variable {P : Program} {N : Nat} {w0 : World} {O0 : Nat → Nat} {ops : Array Oper} {Q : Post} {e0 : Env} {M0 : Mem} {hs : List Nat}

/-- As parOk, but operation f of the open part may also come just behind operation k. -/
def parOkL (ops : Array Oper) (k f : Nat) : Bool :=
  let ds : List (Option Nat) := ops.toList.map (·.dst)
  decide (f < k) && (List.range ops.size).all fun i => match ops[i]? with
    | none => false
    | some o =>
      (o.after.all fun e => !(Region.binds .any e) || decide (e.on < i)) &&
      (if i < k then
        (List.range k).all fun j => match ds.getD j none with
          | some d => (i == j || o.dst != some d) && (!((tmpsOf ops o).contains d) || (decide (j < i) && prec ops 9 i j) || (decide (i < j) && prec ops 9 j i))
          | none => true
      else (List.range i).all fun j => (i == k && j == f) || prec ops 9 i j)
/-- Slots without those of one name. -/
def dropE (d : Nat) (e : Env) : Env := e.filter fun x => !(Nat.beq x.1 d)
def dumPO : PO := ⟨0, .u, none, none, false⟩
/-- The first k operations are open; operation k follows them; operation k + 1 may come at any time. -/
def parOkE (ops : Array Oper) (k : Nat) : Bool :=
  let ds : List (Option Nat) := ops.toList.map (·.dst)
  (List.range ops.size).all fun i => match ops[i]? with
    | none => false
    | some o =>
      (o.after.all fun e => !(Region.binds .any e) || decide (e.on < i)) &&
      (if i < k || i == k + 1 then
        (List.range (k + 2)).all fun j => j == k || match ds.getD j none with
          | some d => (i == j || o.dst != some d) && (!((tmpsOf ops o).contains d) || (decide (j < i) && prec ops 9 i j) || (decide (i < j) && prec ops 9 j i))
          | none => true
      else (List.range i).all fun j => prec ops 9 i j)

end
end Go.Eng
end

section
/- The engine, part 20: small arrays of ints. The engine, part 21: structs written into a slice of the call's own; the slice cut. -/



set_option linter.unusedSimpArgs false
set_option linter.unnecessarySimpa false
set_option linter.unusedVariables false
namespace Go.Eng
open Go.RowKit (Below)

def arrOf (P : Program) (t : TypeId) (n : Nat) : Bool :=
  match P.underlying t with
  | some (.array m e) => m == n && (P.info? e).map (·.size) == some 1 && P.cellsOf e == 1 && vsz P e == some (false, 1) && (match P.underlying e with | some (.int _) => true | _ => false) && !P.eqGuardType P.depth t
  | _ => false
theorem arrOf_spec {P : Program} {t n : Nat} (h : arrOf P t n = true) : ∃ e i kk, P.underlying t = some (.array n e) ∧ P.info? e = some i ∧ i.size = 1 ∧ P.cellsOf e = 1 ∧ vsz P e = some (false, 1) ∧ P.underlying e = some (.int kk) ∧ P.eqGuardType P.depth t = false := by
  unfold arrOf at h
  cases hu : P.underlying t with
  | none => simp [hu] at h
  | some d =>
    cases d <;> simp only [hu] at h <;> try (cases h; done)
    case array m e =>
      simp only [Bool.and_eq_true, Bool.not_eq_true', beq_iff_eq] at h
      obtain ⟨⟨⟨⟨⟨h1, h2⟩, h3⟩, h4⟩, h5⟩, h6⟩ := h
      subst h1
      cases hi : P.info? e with
      | none => simp [hi] at h2
      | some i =>
        simp [hi] at h2
        cases hv : P.underlying e with
        | none => simp [hv] at h5
        | some d =>
          cases d <;> simp [hv] at h5
          exact ⟨e, i, _, rfl, hi, h2, h3, h4, hv, h6⟩

section
variable {P : Program} {B : Nat} {o : Oper} {e : Env} {M : Mem} {s : S}
theorem OpSem.buildA {t n : TypeId} {ps : Array (Nat × Operand)} {l : List (Nat × S)} {zs : List Value} {ss : List S} (ho : o.op = .build t ps) (hp : partsS e ps.toList = some l) (ht : arrOf P t n = true)
    (hz : zcells P t = some zs) (h1 : zs.all Value.oneCell' = true) (hf : fillS (fun i => some (i * 1, 1)) (zs.map fun z => .d (.v z)) l = some ss) : OpSem P B o e M (.g ss) none :=
  .value fun O H a w hs _ => by
    obtain ⟨el, i, kk, hu, hi, hi1, _⟩ := arrOf_spec ht
    obtain ⟨q1, q2⟩ := partsS_rep (O := O) (H := H) (w := w) (a := a) ps.toList l hp (fun p hp s hs' => hs p.2 (by simp only [ho, Op.operands]; simpa using ⟨p.1, by simpa using hp⟩) s hs')
    obtain ⟨cs', hcs, hrep⟩ := fill_rep (places := fun i => some (i * 1, 1)) _ l zs.toArray _ ss q1 q2 (RepC.zero zs h1) hf
    obtain ⟨z, hz1, hz2⟩ := run_zero hz w
    refine ⟨.agg cs', ?_, hrep.g⟩
    have hcs2 : Instr.fill (fun i => some (i * 1, 1)) zs.toArray (ps.toList.map fun p => (p.1, a.eval p.2)) = some cs' := hcs
    simp only [Nat.mul_one] at hcs2
    have hsz : (sizeOf el).run P w = .ok 1 w := by simp [sizeOf, typeInfo, hi, hi1]
    simp [execOp, ho, Instr.build, run_underlying hu, hz1, hz2, hsz, hcs2]

theorem run_eqA2 {t : Nat} {a b c d : Int} (ht : arrOf P t 2 = true) (w : World) (k : Nat) : (Op.equalIn (k + 2) t (.agg #[.int .i64 a, .int .i64 b]) (.agg #[.int .i64 c, .int .i64 d])).run P w = .ok (decide (a = c ∧ b = d)) w := by
  obtain ⟨el, i, kk, hu, hi, hi1, hc1, hv, he, hg⟩ := arrOf_spec ht
  rw [run_equalIn_array w (k + 1) _ _ hu hi, hc1]
  have p0 : ∀ x y : Int, (part el #[.int .i64 x, .int .i64 y] 0).run P w = .ok (.int .i64 x) w := fun x y => by simp [part, (run_isAgg hv w).1]
  have p1 : ∀ x y : Int, (part el #[.int .i64 x, .int .i64 y] 1).run P w = .ok (.int .i64 y) w := fun x y => by simp [part, (run_isAgg hv w).1]
  have hr : List.range 2 = [0, 1] := rfl
  rw [hr]
  simp only [Op.eqItems, Nat.zero_mul, Nat.one_mul, Sem.run_bind, p0, p1, Result.andThen_ok, run_equalIn_int w k el .i64 kk _ _ he, Sem.run_ite, Sem.run_pure]
  by_cases h1 : a = c
  · by_cases h2 : b = d
    · simp [h1, h2]
    · simp [h1, h2]
  · simp [h1]

theorem OpSem.neA2 {t u : Nat} {x y : Operand} {a b c d : Int} (ho : o.op = .binOp .neq t x y u) (hx : opS e x = some (.g [I a, I b])) (hy : opS e y = some (.g [I c, I d])) (ht : arrOf P t 2 = true) :
    OpSem P B o e M (.d (.v (.bool (!decide (a = c ∧ b = d))))) none :=
  .value fun O H ac w hs _ => by
    have hx' := rep_ints (xs := [a, b]) (hs x (by simp [ho, Op.operands]) _ hx)
    have hy' := rep_ints (xs := [c, d]) (hs y (by simp [ho, Op.operands]) _ hy)
    obtain ⟨el, i, kk, hu, hi, hi1, hc1, hv, he, hg⟩ := arrOf_spec ht
    refine ⟨.bool (!decide (a = c ∧ b = d)), ?_, .d _ _ (.v _)⟩
    simp only [List.map_cons, List.map_nil] at hx' hy'
    simp only [execOp, ho, hx', hy', Sem.run_bind, run_eqGuard_agg w .neq t x y _ _ hg, Result.andThen_ok, run_neq_struct, run_eqA2 ht w 9998, Sem.run_pure]
end
end Go.Eng

set_option linter.unusedSimpArgs false
set_option linter.unnecessarySimpa false
set_option linter.unusedVariables false
namespace Go.Eng
open Go.RowKit (Below)

section
variable {P : Program} {N : Nat} {w0 : World} {O0 : Nat → Nat} {ops : Array Oper} {Q : Post} {e : Env} {M : Mem} {rest : List Oper} {o : Oper} {s : S} {B : Nat}

theorem OpSt.storeqN {t : TypeId} {x y : Operand} {g : Bool} {h k T i : Nat} {rows : List (List D)} {r' : List D} (ho : o.op = .store t x y) (hx : opS e x = some (.q h k i 0)) (hy : opS e y = some s) (hs : s.cells = some (r'.map .d))
    (ht : vsz P t = some (g, k)) (hi : i < rows.length) (hrk : r'.length = k) : OpSt P B o e h (.own k T rows) (.own k T (rows.take i ++ [r'] ++ rows.drop (i + 1))) .u := by
  intro O H a w hBw hsl hm K hK
  have hr := hsl x (by simp [ho, Op.operands]) _ hx
  have hv := hsl y (by simp [ho, Op.operands]) _ hy
  obtain ⟨v1, v2⟩ := hv.cells hs
  simp only [List.length_map] at v1
  generalize hxa : a.eval x = xa at hr
  cases hr with
  | q h b k i j len cap' hH' =>
    rcases hm with ⟨h0, _⟩ | ⟨b', cap, xs, hH, hB, hO, hb, hlc, hcm, hsz, hw, hc⟩
    · rw [h0] at hH'; cases hH'
    · rw [hH] at hH'
      simp only [Value.slice.injEq, Option.some.injEq, Addr.mk.injEq, and_true] at hH'
      obtain ⟨rfl, _, _⟩ := hH'
      have h1 : ∀ z, z ∈ (a.eval y).cells.toList → z.oneCell' = true := by
        intro z hz
        obtain ⟨i, hi⟩ := List.getElem?_of_mem hz
        have hlt : i < r'.length := by rw [← v1]; have := (List.getElem?_eq_some_iff.1 hi).1; simpa using this
        obtain ⟨z', hz', _, ho'⟩ := v2 i (.d r'[i]) (by rw [List.getElem?_map, List.getElem?_eq_getElem hlt]; rfl)
        have : z = z' := by simpa [hz'] using hi.symm
        rw [this]; exact ho'
      have hvl : (a.eval y).cells.toList.length = ([r'] : List (List D)).length * k := by simp [v1, hrk]
      obtain ⟨c1, c2, c3⟩ := MHold.setCells (new := [r']) (vs := (a.eval y).cells.toList) (lo := i) hH hB hO hb hlc hcm hsz hw hc (by simp; omega) hvl (fun r hr => by simp at hr; rw [hr]; exact hrk) (fun i' r j d hi' hj => by
        have : i' = 0 := by have := (List.getElem?_eq_some_iff.1 hi').1; simp at this; omega
        subst this
        simp at hi'; subst hi'
        obtain ⟨z, hz, hrz, hoz⟩ := v2 j (.d d) (by rw [List.getElem?_map, hj]; rfl)
        refine ⟨z, by simpa using hz, ?_, hoz⟩
        cases hrz with
        | d _ _ hd => exact hd) h1
      have hfit : i * k + k ≤ xs.size := by
        rw [hsz]
        have := Nat.mul_le_mul_right k (show i + 1 ≤ cap by omega)
        rw [Nat.succ_mul] at this; exact this
      have hrun := run_storeVar ht (off := i * k) (v := a.eval y) hb (by rw [v1, hrk]) hfit h1
      unfold Oper.wp
      have e0 : i * k + 0 = i * k := rfl
      simp only [execOp, ho, hxa, e0, Instr.storeAt, Instr.sureAddr, Sem.run_bind, Sem.run_pure, Result.andThen_ok, hrun, Oper.upon_skip]
      have hl : (a.eval y).cells.toList.length = k := by simp [v1, hrk]
      rw [hl] at c1 c2 c3
      refine hK _ _ c1 c2 ?_ (.u _)
      simpa using c3

theorem TrOps.ofSt0 {h : Nat} {m m' : Mo} (hst : OpSt P w0.heap.size o e h m m' s) (hM : look M h = some m) (hg : o.guard = none) (hd : o.dst = none)
    (hn : TrOps P N w0 O0 ops Q e ((h, m') :: M) rest) : TrOps P N w0 O0 ops Q e M (o :: rest) := by
  intro O H a w h0
  refine wpList_plain hg fun K hK => Oper.wp_false (hst O H a w h0.bl.size (h0.slotsAt _) (h0.mem h m hM) _ fun w' x h1 h2 h3 h4 => hK _ _ (hn O H _ _ ⟨?_, ?_, h0.bl.trans (h2.mono (Nat.le_refl _)), h0.lab, ?_, fun h' mm hm => ?_⟩)) _
  · rw [hd]; exact h0.df
  · rw [hd]; exact h0.sz
  · rw [hd]
    intro n s' hs'
    obtain ⟨z, hz, hr⟩ := h0.slots n s' hs'
    exact ⟨z, hz, hr.mono0 h1⟩
  · rcases look_cons hm with ⟨rfl, rfl⟩ | ⟨hne, hm⟩
    · exact h3
    · exact (h0.mem h' mm hm).mono h1 (by intro e; cases e; exact hne rfl) (by simp) 0 (fun h he => by cases he) (.inl rfl)

/-- x[:n], of which no other part is used any more. -/
theorem OpSem.cutO {t k T h : Nat} {x l : Operand} {rows : List (List D)} {kk : IntKind} {n : Int} (ho : o.op = .slice t x none (some l) none) (hx : opS e x = some (.o h)) (hM : look M h = some (.own k T rows)) (hl : opS e l = some (.d (.v (.int kk n))))
    (ht : esz P t = some k) (h0 : 0 ≤ n) (h1 : n ≤ rows.length) (h2 : 0 < rows.length) : OpSem P B o e M (.o h) (some (h, .own k T (rows.take n.toNat))) := by
  intro O H a w hB hs hms K hK
  have hx' := hs x (by simp [ho, Op.operands]) _ hx
  have hl' := hs l (by simp [ho, Op.operands]) _ hl
  obtain ⟨b, cap, xs, g1, g2, g3, g4, g5, g6, g7, g8, g9⟩ := (hms h _ hM).ownSome h2
  generalize hv : a.eval x = v at hx'
  generalize hu : a.eval l = u at hl'
  cases hl' with
  | d _ _ hl' => cases hl' with
    | v _ => cases hx' with
      | o h h1' =>
        rw [g1] at hv
        have hrun : (execOp a.eval o).run P w = .ok (.value (.slice (some ⟨b, 0, none⟩) n.toNat cap)) w := by
          have := run_slice_h (P := P) w t (some ⟨b, 0, none⟩) rows.length cap (esz_spec ht).1 kk n h0 (by omega)
          simp only [execOp, ho, hv, hu, Option.map_some, Option.map_none, Sem.run_bind, run_sliceAt_slice w t _ _ _ _ (esz_spec ht).1, this, run_sizeElem ht, Result.andThen_ok, Sem.run_pure]
          unfold sliced
          simp [Addr.add_zero']
        unfold Oper.wp
        rw [hrun]
        obtain ⟨H', hH'⟩ : ∃ H' : Nat → Value, H' = fun m => if m = h then (.slice (some ⟨b, 0, none⟩) n.toNat cap : Value) else H m := ⟨_, rfl⟩
        have hh : H' h = .slice (some ⟨b, 0, none⟩) n.toNat cap := by rw [hH']; simp
        have hk : Keep none (some h) O H w O H' w := ⟨fun _ _ => rfl, fun _ _ _ => rfl, fun m hm => by rw [hH']; simp; intro e; subst e; exact (hm rfl).elim⟩
        have hrep := RepS.o (O := O) (H := H') (w := w) h (by rw [hh]; rfl)
        rw [hh] at hrep
        refine hK O H' w _ hk (.refl _ _) hrep (fun h' m he => ?_)
        simp only [Option.some.injEq, Prod.mk.injEq] at he
        obtain ⟨rfl, rfl⟩ := he
        have hlen : (rows.take n.toNat).length = n.toNat := by simp; omega
        refine .inr ⟨b, cap, xs, by rw [hlen]; exact hh, g2, g3, g4, by rw [hlen]; omega, g6, g7, fun r hr => g8 r (List.mem_of_mem_take hr), fun i r j d hi hj => ?_⟩
        have hin : i < n.toNat := by have := (List.getElem?_eq_some_iff.1 hi).1; omega
        rw [List.getElem?_take_of_lt hin] at hi
        exact g9 i r j d hi hj
end
end Go.Eng
end

section
/- Closed facts on the types of this translation. Written by gen.py. -/




namespace Go.Proofs.Ytohlmcebphcokaa
open Go.Eng
theorem mixed : Try.prog.follows .mixedOrders = true := by kernel_rfl
theorem ar120 : arrOf Try.prog 120 2 = true := by kernel_rfl
theorem by120 : Try.prog.bytesOf 120 = 16 := by kernel_rfl
theorem by3 : Try.prog.bytesOf 3 = 8 := by kernel_rfl
theorem by93 : Try.prog.bytesOf 93 = 24 := by kernel_rfl
theorem bye22 : Try.prog.bytesOf (Try.prog.elem 22) = 8 := by kernel_rfl
theorem cv125_3 : cvk Try.prog 125 3 = some .i64 := by kernel_rfl
theorem cv3_125 : cvk Try.prog 3 125 = some .u64 := by kernel_rfl
theorem el119 : Try.prog.elem 119 = 120 := by kernel_rfl
theorem el22 : Try.prog.elem 22 = 3 := by kernel_rfl
theorem el44 : Try.prog.elem 44 = 93 := by kernel_rfl
theorem es119 : esz Try.prog 119 = some 2 := by kernel_rfl
theorem es22 : esz Try.prog 22 = some 1 := by kernel_rfl
theorem es34 : esz Try.prog 34 = some 5 := by kernel_rfl
theorem es44 : esz Try.prog 44 = some 3 := by kernel_rfl
theorem f1_29_0 : fo1 Try.prog 29 0 = some 0 := by kernel_rfl
theorem fo29_0 : fof Try.prog 29 0 = some 0 := by kernel_rfl
theorem fo46_0 : fof Try.prog 46 0 = some 0 := by kernel_rfl
theorem fo46_1 : fof Try.prog 46 1 = some 1 := by kernel_rfl
theorem fo46_2 : fof Try.prog 46 2 = some 2 := by kernel_rfl
theorem fo46_3 : fof Try.prog 46 3 = some 3 := by kernel_rfl
theorem fo46_4 : fof Try.prog 46 4 = some 4 := by kernel_rfl
theorem fo93_0 : fof Try.prog 93 0 = some 0 := by kernel_rfl
theorem fo93_1 : fof Try.prog 93 1 = some 1 := by kernel_rfl
theorem fo93_2 : fof Try.prog 93 2 = some 2 := by kernel_rfl
theorem io29 : intsOf Try.prog 29 2 = true := by kernel_rfl
theorem io93 : intsOf Try.prog 93 3 = true := by kernel_rfl
theorem pl29 : places Try.prog 29 = some [(0, 1), (1, 1)] := by kernel_rfl
theorem pl46 : places Try.prog 46 = some [(0, 1), (1, 1), (2, 1), (3, 1), (4, 1)] := by kernel_rfl
theorem pl93 : places Try.prog 93 = some [(0, 1), (1, 1), (2, 1)] := by kernel_rfl
theorem ub4 : Try.prog.underlying 4 = some .bool := by kernel_rfl
theorem vs120 : vsz Try.prog 120 = some (true, 2) := by kernel_rfl
theorem vs22 : vsz Try.prog 22 = some (false, 1) := by kernel_rfl
theorem vs29 : vsz Try.prog 29 = some (true, 2) := by kernel_rfl
theorem vs3 : vsz Try.prog 3 = some (false, 1) := by kernel_rfl
theorem vs44 : vsz Try.prog 44 = some (false, 1) := by kernel_rfl
theorem vs46 : vsz Try.prog 46 = some (true, 5) := by kernel_rfl
theorem vs93 : vsz Try.prog 93 = some (true, 3) := by kernel_rfl
theorem zc120 : zcells Try.prog 120 = some [.int .i64 0, .int .i64 0] := by kernel_rfl
theorem zc29 : zcells Try.prog 29 = some [.int .i64 0, .int .i64 0] := by kernel_rfl
theorem zc3 : zcells Try.prog 3 = some [.int .i64 0] := by kernel_rfl
theorem zc46 : zcells Try.prog 46 = some [.int .i64 0, .int .i64 0, .slice none 0 0, .int .i64 0, .slice none 0 0] := by kernel_rfl
theorem zc93 : zcells Try.prog 93 = some [.int .i64 0, .int .i64 0, .int .i64 0] := by kernel_rfl
theorem ze119 : zcells Try.prog (Try.prog.elem 119) = some [.int .i64 0, .int .i64 0] := by kernel_rfl
theorem ze22 : zcells Try.prog (Try.prog.elem 22) = some [.int .i64 0] := by kernel_rfl
theorem ze34 : zcells Try.prog (Try.prog.elem 34) = some [.int .i64 0, .int .i64 0, .slice none 0 0, .int .i64 0, .slice none 0 0] := by kernel_rfl
theorem ze44 : zcells Try.prog (Try.prog.elem 44) = some [.int .i64 0, .int .i64 0, .int .i64 0] := by kernel_rfl
end Go.Proofs.Ytohlmcebphcokaa
end

section
/- Walks, written by gen.py out of hints. -/

set_option linter.unusedVariables false
set_option linter.unusedSimpArgs false
namespace Go.Proofs.Ytohlmcebphcokaa
open Go.Eng
set_option maxRecDepth 10000
set_option maxHeartbeats 1000000

theorem R_In_does (n a b : Int) : Does Try.prog false 25 [I (n), I (a), I (b)] (Bo (decide (a ≤ n ∧ n ≤ b))) := by
  refine Does.of_body Try.func25 rfl rfl (by simp) Try.call25 (fun w0 O0 => ?_)
  refine Tr.seq ?_
  refine Tr.region ?_
  refine TrOps.sem (OpSem.move (.inr rfl) rfl) rfl rfl (by decide) ?_
  refine TrOps.nil ?_
  refine At.seq ?_
  refine Tr.seq ?_
  refine Tr.region ?_
  refine TrOps.sem (OpSem.move (.inl rfl) rfl) rfl rfl (by decide) ?_
  refine TrOps.sem (OpSem.move (.inl rfl) rfl) rfl rfl (by decide) ?_
  refine TrOps.sem (OpSem.bin rfl rfl rfl bgeq) rfl rfl (by decide) ?_
  refine TrOps.sem (OpSem.move (.inl rfl) rfl) rfl rfl (by decide) ?_
  refine TrOps.split (n := 10) rfl (fun c10 => ?_) (fun c10 => ?_)
  · refine TrOps.gT rfl rfl rfl rfl c10 ?_
    refine TrOps.sem (OpSem.move (.inl rfl) rfl) rfl rfl (by decide) ?_
    refine TrOps.gT rfl rfl rfl rfl c10 ?_
    refine TrOps.sem (OpSem.move (.inl rfl) rfl) rfl rfl (by decide) ?_
    refine TrOps.gT rfl rfl rfl rfl c10 ?_
    refine TrOps.sem (OpSem.bin rfl rfl rfl bleq) rfl rfl (by decide) ?_
    refine TrOps.sem (OpSem.pickT rfl rfl c10 rfl) rfl rfl (by decide) ?_
    refine TrOps.sem (OpSem.move (.inr rfl) rfl) rfl rfl (by decide) ?_
    refine TrOps.nil ?_
    refine At.seq ?_
    refine Tr.ret ?_
    exact At.ret rfl (.tmp rfl <| .nil) rfl (Le.bo (by simp at *; omega))
  · refine TrOps.gF rfl rfl rfl rfl c10 rfl (by decide) ?_
    refine TrOps.gF rfl rfl rfl rfl c10 rfl (by decide) ?_
    refine TrOps.gF rfl rfl rfl rfl c10 rfl (by decide) ?_
    refine TrOps.sem (OpSem.pickF rfl rfl c10 rfl) rfl rfl (by decide) ?_
    refine TrOps.sem (OpSem.move (.inr rfl) rfl) rfl rfl (by decide) ?_
    refine TrOps.nil ?_
    refine At.seq ?_
    refine Tr.ret ?_
    exact At.ret rfl (.tmp rfl <| .nil) rfl (Le.bo (by simp at *; omega))

theorem R_At_does (a b : Int) : Does Try.prog false 28 [I (a), I (b)] (flt (a, b)) := by
  refine Does.of_body Try.func28 rfl rfl (by simp) Try.call28 (fun w0 O0 => ?_)
  refine Tr.seq ?_
  refine Tr.region ?_
  refine TrOps.semM (OpSem.alloc 4 rfl zc29 rfl) rfl rfl (by decide) ?_
  refine TrOps.nil ?_
  refine At.seq ?_
  refine Tr.seq ?_
  refine Tr.region ?_
  refine TrOps.sem (OpSem.move (.inl rfl) rfl) rfl rfl (by decide) ?_
  refine TrOps.sem (OpSem.move (.inl rfl) rfl) rfl rfl (by decide) ?_
  refine TrOps.sem (OpSem.build rfl rfl pl29 zc29 rfl rfl) rfl rfl (by decide) ?_
  refine TrOps.storeb rfl rfl rfl rfl rfl rfl rfl vs29 (by first | decide | simp) ?_
  refine TrOps.nil ?_
  refine At.seq ?_
  refine Tr.ret ?_
  exact At.ret rfl (.cellN rfl rfl vs29 <| .nil) rfl (.refl _)

theorem slices_IndexFunc_int_int_does (l : List Int) (fn : Nat) (cs : List S) (p : Int → Bool) (hcs : Caught cs) (hf : ∀ x, x ∈ l → Does Try.prog false fn ([I x] ++ cs) (Bo (p x))) : Does Try.prog false 103 [.d (ints l), .f fn [] cs] (I (findI p l)) := by
  refine Does.of_body Try.func103 rfl rfl (by simp) Try.call103 (fun w0 O0 => ?_)
  refine Tr.lenLe (n := 0) rfl (fun len0 => ?_)
  refine Tr.seq ?_
  refine Tr.region ?_
  refine TrOps.sem (OpSem.move (.inr rfl) rfl) rfl rfl (by decide) ?_
  refine TrOps.nil ?_
  refine At.seq ?_
  refine Tr.seq ?_
  refine Tr.seq ?_
  refine Tr.region ?_
  refine TrOps.sem (OpSem.move (.inl rfl) rfl) rfl rfl (by decide) ?_
  refine TrOps.sem (OpSem.lenL rfl rfl es22) rfl rfl (by decide) ?_
  refine TrOps.sem (OpSem.move (.inl rfl) rfl) rfl rfl (by decide) ?_
  refine TrOps.nil ?_
  refine At.seq ?_
  refine Tr.block ?_
  refine Tr.loop (X := Nat) (fun k => k ≤ l.length ∧ ∀ j : Nat, j < k → p (nth l j) = false) (fun k => [(0, .d (ints l)), (1, .f fn [] cs), (7, I (l.length)), (8, I (k))]) (fun k => []) (fun k => l.length - k) 0 ⟨by omega, by simp⟩ ?_ ?_
  · exact .slot rfl (.refl _) <| .slot rfl (.refl _) <| .slot rfl (.refl _) <| .slot rfl (Le.of_eq (by simp)) <| .nil
  · rintro k ⟨hkl, hinv⟩
    refine Tr.seq ?_
    refine Tr.region ?_
    refine TrOps.sem (OpSem.bin rfl rfl rfl blss) rfl rfl (by decide) ?_
    refine TrOps.nil ?_
    refine At.seq ?_
    refine Tr.seq ?_
    refine Tr.cond rfl (fun c9 => ?_) (fun c9 => ?_)
    · have hk : k < l.length := by simpa using c9
      refine Tr.skip ?_
      refine At.seq ?_
      refine Tr.seq ?_
      refine Tr.block ?_
      refine Tr.seq ?_
      refine Tr.region ?_
      refine TrOps.sem (OpSem.move (.inl rfl) rfl) rfl rfl (by decide) ?_
      refine TrOps.sem (OpSem.move (.inr rfl) rfl) rfl rfl (by decide) ?_
      refine TrOps.nil ?_
      refine At.seq ?_
      refine Tr.seq ?_
      refine Tr.region ?_
      refine TrOps.sem (OpSem.move (.inl rfl) rfl) rfl rfl (by decide) ?_
      refine TrOps.sem (OpSem.move (.inl rfl) rfl) rfl rfl (by decide) ?_
      refine TrOps.sem (OpSem.move (.inl rfl) rfl) rfl rfl (by decide) ?_
      refine TrOps.sem (OpSem.idxL rfl rfl rfl es22 (by omega) (by omega)) rfl rfl (by decide) ?_
      refine TrOps.sem (OpSem.load1 rfl rfl vs3 rfl) rfl rfl (by decide) ?_
      refine TrOps.sem (OpSem.call0 (hf _ (nth_mem (by omega) (by omega))) rfl rfl rfl (hcs.app rfl) (Les.refl _)) rfl rfl (by decide) ?_
      refine TrOps.nil ?_
      refine At.seq ?_
      refine Tr.cond rfl (fun c16 => ?_) (fun c16 => ?_)
      · refine Tr.seq ?_
        refine Tr.region ?_
        refine TrOps.sem (OpSem.move (.inl rfl) rfl) rfl rfl (by decide) ?_
        refine TrOps.sem (OpSem.move (.inr rfl) rfl) rfl rfl (by decide) ?_
        refine TrOps.nil ?_
        refine At.seq ?_
        refine Tr.ret ?_
        refine At.block_ret ?_
        refine At.pass_ret ?_
        refine At.pass_ret ?_
        refine At.block_ret ?_
        refine At.pass_ret ?_
        exact At.ret rfl (.tmp rfl <| .nil) rfl (Le.i (findI_some hk hinv c16).symm)
      · refine Tr.skip ?_
        refine At.block_normal ?_
        refine At.seq ?_
        refine Tr.region ?_
        refine TrOps.sem (OpSem.bin rfl rfl rfl (badd (by omega) (by omega))) rfl rfl (by decide) ?_
        refine TrOps.sem (OpSem.move (.inl rfl) rfl) rfl rfl (by decide) ?_
        refine TrOps.nil ?_
        refine At.again (k + 1) ⟨by omega, all_succ hinv c16⟩ ?_ (by omega)
        exact .slot rfl (.refl _) <| .slot rfl (.refl _) <| .slot rfl (.refl _) <| .slot rfl (Le.of_eq (by simp)) <| .nil
    · have hk : k = l.length := by simp at c9; omega
      refine Tr.exit ?_
      refine At.pass_exit ?_
      refine At.pass_exit ?_
      refine At.block_same ?_
      refine At.seq ?_
      refine Tr.seq ?_
      refine Tr.region ?_
      refine TrOps.sem (OpSem.move (.inr rfl) rfl) rfl rfl (by decide) ?_
      refine TrOps.nil ?_
      refine At.seq ?_
      refine Tr.ret ?_
      exact At.ret rfl (.tmp rfl <| .nil) rfl (Le.i (by subst hk; exact (findI_none hinv).symm))

theorem slices_ContainsFunc_int_int_does (l : List Int) (fn : Nat) (cs : List S) (p : Int → Bool) (hcs : Caught cs) (hf : ∀ x, x ∈ l → Does Try.prog false fn ([I x] ++ cs) (Bo (p x))) : Does Try.prog false 72 [.d (ints l), .f fn [] cs] (Bo (l.any p)) := by
  refine Does.of_body Try.func72 rfl rfl (by simp) Try.call72 (fun w0 O0 => ?_)
  refine Tr.lenLe (n := 0) rfl (fun len0 => ?_)
  refine Tr.seq ?_
  refine Tr.region ?_
  refine TrOps.sem (OpSem.move (.inr rfl) rfl) rfl rfl (by decide) ?_
  refine TrOps.nil ?_
  refine At.seq ?_
  refine Tr.seq ?_
  refine Tr.region ?_
  refine TrOps.sem (OpSem.move (.inl rfl) rfl) rfl rfl (by decide) ?_
  refine TrOps.sem (OpSem.move (.inl rfl) rfl) rfl rfl (by decide) ?_
  refine TrOps.sem (OpSem.call0 (slices_IndexFunc_int_int_does l fn cs p hcs hf) rfl rfl rfl (hcs.arg rfl) (Les.refl _)) rfl rfl (by decide) ?_
  refine TrOps.sem (OpSem.bin rfl rfl rfl bgeq) rfl rfl (by decide) ?_
  refine TrOps.sem (OpSem.move (.inr rfl) rfl) rfl rfl (by decide) ?_
  refine TrOps.nil ?_
  refine At.seq ?_
  refine Tr.ret ?_
  exact At.ret rfl (.tmp rfl <| .nil) rfl (Le.bo findI_any)

end Go.Proofs.Ytohlmcebphcokaa
end

section
/- Weights of values: what is computed. -/

set_option linter.unusedVariables false
set_option linter.unusedSimpArgs false
namespace Go.Eng

abbrev RowOk (r : List Int) : Prop := ∀ x : Nat, x < r.length → -1000000 ≤ nth r x ∧ nth r x ≤ 1000000
abbrev LensP (sizes : List Int) (w : List (List Int)) : Prop := ∀ v : Nat, v < w.length → ((nth w v).length : Int) = nth sizes v
abbrev RowsP (w : List (List Int)) : Prop := ∀ v : Nat, v < w.length → RowOk (nth w v)
/-- The error code of weights. -/
def wcode (sizes : List Int) (w : List (List Int)) : Int :=
  if w.length ≠ sizes.length then 9 else if ¬ LensP sizes w then 9 else if ¬ RowsP w then 3 else 0
def wfault (sizes : List Int) (w : List (List Int)) (i : Int) : Int × Int := if wcode sizes w = 0 then (0, 0) else (wcode sizes w, i)
def goodTo (w : List (List Int)) (k : Nat) : Bool := decide (∀ v : Nat, v < k → RowOk (nth w v))
def goodIn (w : List (List Int)) (k j : Nat) : Bool := goodTo w k && decide (∀ x : Nat, x < j → -1000000 ≤ nth (nth w k) x ∧ nth (nth w k) x ≤ 1000000)
/-- The greatest of the first k + 1 numbers. -/
def lmaxTo (l : List Int) : Nat → Int
  | 0 => nth l 0
  | k + 1 => max (lmaxTo l k) (nth l (k + 1 : Nat))
def lmax (l : List Int) : Int := lmaxTo l (l.length - 1)
/-- The greatest weight of variable v where some assignments hold. -/
def greatest (w : List (List Int)) (v : Int) (l : List Asg) : Int :=
  match firstBad l.length (fun i => decide ((nth l i).1 ≠ v)) with
  | some i => nth (nth w v) (nth l i).2
  | none => lmax (nth w v)
/-- What a valid task gives. -/
structure Valid (m : Multi) : Prop where
  len : 1 ≤ m.sizes.length ∧ m.sizes.length ≤ 8
  sizes : SizesP m.sizes
  init : StateP m.sizes m.init
  goal : AsgsP m.sizes m.goal
  opsLen : m.ops.length ≤ 40
  op : ∀ i : Nat, i < m.ops.length → AsgsP m.sizes (nth m.ops i).pre ∧ AsgsP m.sizes (nth m.ops i).post ∧ 0 ≤ (nth m.ops i).cost ∧ (nth m.ops i).cost ≤ 100
/-- Fitting weights. -/
structure WOk (sizes : List Int) (w : List (List Int)) : Prop where
  len : w.length = sizes.length
  lens : LensP sizes w
  rows : RowsP w
theorem WOk.row {sizes : List Int} {w : List (List Int)} (h : WOk sizes w) {v x : Int} (h0 : 0 ≤ v) (h1 : v < sizes.length) (h2 : 0 ≤ x) (h3 : x < nth sizes v) : x < (nth w v).length ∧ -1000000 ≤ nth (nth w v) x ∧ nth (nth w v) x ≤ 1000000 := by
  have e := h.lens v.toNat (by have := h.len; omega)
  have r := h.rows v.toNat (by have := h.len; omega) x.toNat
  rw [Int.toNat_of_nonneg h0] at e r
  rw [Int.toNat_of_nonneg h2] at r
  exact ⟨by omega, r (by omega)⟩
/-- What is left of an operator's cost behind its first k assignments. -/
def slackTo (w : List (List Int)) (o : MOp) : Nat → Int
  | 0 => o.cost
  | k + 1 => slackTo w o k - (greatest w (nth o.post k).1 o.pre - nth (nth w (nth o.post k).1) (nth o.post k).2)
def slack (w : List (List Int)) (o : MOp) : Int := slackTo w o o.post.length
def goalTo (w : List (List Int)) (l : List Asg) : Nat → Int
  | 0 => 0
  | k + 1 => goalTo w l k + greatest w k l
def goalMax (w : List (List Int)) (l : List Asg) : Int := goalTo w l w.length
/-- The value of a state, up to a variable. -/
def valTo (w : List (List Int)) (s : List Int) : Nat → Int
  | 0 => 0
  | k + 1 => valTo w s k + nth (nth w k) (nth s k)
def val (w : List (List Int)) (s : List Int) : Int := valTo w s s.length
/-- The second fault where there is no first one. -/
def thenF (f g : Int × Int) : Int × Int := if f = (0, 0) then g else f
def valFault (m : Multi) (w : List (List Int)) (s : List Int) : Int × Int := thenF (stateFault m s) (wfault m.sizes w (-8))
def valRes (m : Multi) (w : List (List Int)) (s : List Int) : Int := if valFault m w s = (0, 0) then val w s else 0
/-- Weights are checked behind a fault. -/
def addW (f : Int × Int) (sizes : List Int) (w : List (List Int)) (i : Int) : Int × Int := if f.1 = 0 ∧ wcode sizes w ≠ 0 then (wcode sizes w, i) else f
def potFault (m : Multi) (w : List (List Int)) (i : Int) : Int × Int := if validate m = (0, 0) then wfault m.sizes w i else validate m
def slackRes (m : Multi) (w : List (List Int)) : List Int × Int × (Int × Int) :=
  if potFault m w (-8) = (0, 0) then (m.ops.map (slack w), goalMax w m.goal, (0, 0)) else ([], 0, potFault m w (-8))
def adm (m : Multi) (w : List (List Int)) : Bool := decide ((slackRes m w).2.2 = (0, 0)) && (decide ((slackRes m w).2.1 ≤ 0) && !((slackRes m w).1.any fun n => decide (n < 0)))
end Go.Eng
end

section
/- Walks, written by gen.py out of hints. -/



set_option linter.unusedVariables false
set_option linter.unusedSimpArgs false
namespace Go.Proofs.Ytohlmcebphcokaa
open Go.Eng
set_option maxRecDepth 10000
set_option maxHeartbeats 1000000



end Go.Proofs.Ytohlmcebphcokaa
end

section
/- Plain functions behind potential's laws: the faults of a list of weights, the best of them, the worked example. Plain functions: a state behind an operator. Plain laws of potential's functions: an operator lowers the value by no more than its cost less its slack. -/

set_option linter.unusedVariables false
set_option linter.unusedSimpArgs false
namespace Go.Eng
open Go

/-- The first fault of a list of weights, behind a fault. -/
def addTo (g : Int × Int) (sizes : List Int) (l : List (List (List Int))) : Nat → Int × Int
  | 0 => g
  | k + 1 => addW (addTo g sizes l k) sizes (nth l k) k
def baseF (m : Multi) (l : List (List (List Int))) (s : List Int) : Int × Int :=
  if (stateFault m s).1 = 0 ∧ ¬ (1 ≤ l.length ∧ l.length ≤ 6) then (9, -9) else stateFault m s
def bestF (m : Multi) (l : List (List (List Int))) (s : List Int) : Int × Int := addTo (baseF m l s) m.sizes l l.length
/-- The first of the greatest. -/
def bestTo (f : Nat → Int) : Nat → Nat
  | 0 => 0
  | k + 1 => if f (bestTo f k) < f k then k else bestTo f k
abbrev valL (l : List (List (List Int))) (s : List Int) (i : Nat) : Int := val (nth l i) s
def bestI (l : List (List (List Int))) (s : List Int) : Nat := bestTo (valL l s) l.length
def bestRes (m : Multi) (l : List (List (List Int))) (s : List Int) : Int × Int × (Int × Int) :=
  if bestF m l s = (0, 0) then ((bestI l s : Int), val (nth l (bestI l s)) s, (0, 0)) else (0, 0, bestF m l s)
theorem ext_nth {α : Type} [Inhabited α] {a b : List α} (hl : a.length = b.length) (h : ∀ i : Nat, i < a.length → nth a i = nth b i) : a = b := by
  apply List.ext_getElem hl
  intro i h1 h2
  have := h i h1
  rwa [nth_eq h1, nth_eq h2] at this
def lampsM : Multi := ⟨[2, 2], [0, 0], [(0, 1), (1, 1)], [⟨[], [(0, 1)], 2⟩, ⟨[], [(1, 1)], 3⟩]⟩
def exW : List (List Int) := [[2, 0], [3, 0]]
/-- The slot holds what is less said. -/
theorem TrOps.weak {P : Program} {N : Nat} {w0 : World} {O0 : Nat → Nat} {ops : Array Oper} {Q : Post} {e : Env} {M : Mem} {rest : List Oper} {s s' : S} (n : Nat) (hn : look e n = some s) (hl : Le s s') (h : TrOps P N w0 O0 ops Q ((n, s') :: e) M rest) : TrOps P N w0 O0 ops Q e M rest := by
  intro O H a w hst
  refine h O H a w ⟨hst.df, hst.sz, hst.bl, hst.lab, fun k t hk => ?_, hst.mem⟩
  rcases look_cons hk with ⟨rfl, rfl⟩ | ⟨_, hk⟩
  · obtain ⟨x, hx, hr⟩ := hst.slots _ _ hn
    exact ⟨x, hx, hl _ _ _ _ hr⟩
  · exact hst.slots k t hk
theorem Tr.weak {P : Program} {N : Nat} {w0 : World} {O0 : Nat → Nat} {Q : Post} {e : Env} {M : Mem} {c : Code} {s s' : S} (n : Nat) (hn : look e n = some s) (hl : Le s s') (h : Tr P N w0 O0 ((n, s') :: e) M c Q) : Tr P N w0 O0 e M c Q := by
  intro O H a w hst
  refine h O H a w ⟨hst.df, hst.sz, hst.bl, hst.lab, fun k t hk => ?_, hst.mem⟩
  rcases look_cons hk with ⟨rfl, rfl⟩ | ⟨_, hk⟩
  · obtain ⟨x, hx, hr⟩ := hst.slots _ _ hn
    exact ⟨x, hx, hl _ _ _ _ hr⟩
  · exact hst.slots k t hk
end Go.Eng

set_option linter.unusedVariables false
set_option linter.unusedSimpArgs false
namespace Go.Eng
open Go

theorem rows_get {α : Type} [Inhabited α] {l : List α} {f : α → List D} {n : Int} (h0 : 0 ≤ n) (h1 : n < l.length) : (l.map f)[n.toNat]? = some (f (nth l n)) := by
  have hk : n.toNat < l.length := by omega
  simp only [List.getElem?_map, List.getElem?_eq_getElem hk, Option.map_some]
  rw [← nth_eq hk, Int.toNat_of_nonneg h0]
/-- A list with one place set. -/
def setI {α : Type} (l : List α) (i : Int) (v : α) : List α := l.set i.toNat v
theorem rows_set {α : Type} {l : List α} {f : α → List D} {i : Nat} {v : α} : (l.map f).set i (f v) = (l.set i v).map f := by rw [List.map_set]
theorem setI_len {α : Type} {l : List α} {i : Int} {v : α} : (setI l i v).length = l.length := by simp [setI]
theorem nth_setI {α : Type} [Inhabited α] {l : List α} {i : Int} {v : α} {n : Int} (h0 : 0 ≤ n) (h1 : n < l.length) (hi : 0 ≤ i) : nth (setI l i v) n = if n = i then v else nth l n := by
  have e1 : nth (setI l i v) n = nth (setI l i v) (n.toNat : Int) := by rw [Int.toNat_of_nonneg h0]
  have e2 : nth l n = nth l (n.toNat : Int) := by rw [Int.toNat_of_nonneg h0]
  rw [e1, e2, nth_eq (by rw [setI_len]; omega), nth_eq (by omega)]
  simp only [setI, List.getElem_set]
  by_cases h : n = i
  · rw [if_pos (by rw [h]), if_pos h]
  · rw [if_neg (by omega), if_neg h]
/-- The state behind the first k assignments. -/
def nextTo (s : List Int) (l : List Asg) : Nat → List Int
  | 0 => s
  | k + 1 => setI (nextTo s l k) (nth l k).1 (nth l k).2
def nextS (s : List Int) (l : List Asg) : List Int := nextTo s l l.length
/-- All assignments hold in the state. -/
def holds (s : List Int) (l : List Asg) : Bool := !(l.any fun a => !decide (nth s a.1 = a.2))
theorem caught_p (l : List D) : Caught [.p l] := by
  intro n hn
  obtain ⟨m, rfl⟩ : ∃ m, n = m + 1 := ⟨n - 1, by omega⟩
  rfl
/-- An operator applied: the fault, and the state behind it. -/
def applyF (m : Multi) (s : List Int) (op : Int) : Int × Int :=
  if stateFault m s = (0, 0) then
    if op < 0 ∨ m.ops.length ≤ op then (3, -6) else if holds s (nth m.ops op).pre = true then (0, 0) else (11, op)
  else stateFault m s
def applyS (m : Multi) (s : List Int) (op : Int) : List Int := if applyF m s op = (0, 0) then nextS s (nth m.ops op).post else []
end Go.Eng

set_option linter.unusedVariables false
set_option linter.unusedSimpArgs false
namespace Go.Eng
open Go

/-- What the first k assignments of a list change. -/
def gain (w : List (List Int)) (s : List Int) (l : List Asg) : Nat → Int
  | 0 => 0
  | k + 1 => gain w s l k + (nth (nth w (nth l k).1) (nth s (nth l k).1) - nth (nth w (nth l k).1) (nth l k).2)
end Go.Eng
end

section
/- Walks, written by gen.py out of hints. -/



set_option linter.unusedVariables false
set_option linter.unusedSimpArgs false
namespace Go.Proofs.Ytohlmcebphcokaa
open Go.Eng
set_option maxRecDepth 10000
set_option maxHeartbeats 1000000

theorem R_Ints_does (a b : List Int) : Does Try.prog false 32 [.d (ints a), .d (ints b)] (Bo (decide (a = b))) := by
  refine Does.of_body Try.func32 rfl rfl (by simp) Try.call32 (fun w0 O0 => ?_)
  refine Tr.lenLe (n := 0) rfl (fun len0 => ?_)
  refine Tr.lenLe (n := 1) rfl (fun len1 => ?_)
  refine Tr.seq ?_
  refine Tr.region ?_
  refine TrOps.sem (OpSem.move (.inr rfl) rfl) rfl rfl (by decide) ?_
  refine TrOps.nil ?_
  refine At.seq ?_
  refine Tr.seq ?_
  refine Tr.seq ?_
  refine Tr.region ?_
  refine TrOps.sem (OpSem.move (.inl rfl) rfl) rfl rfl (by decide) ?_
  refine TrOps.sem (OpSem.lenL rfl rfl es22) rfl rfl (by decide) ?_
  refine TrOps.sem (OpSem.move (.inl rfl) rfl) rfl rfl (by decide) ?_
  refine TrOps.sem (OpSem.lenL rfl rfl es22) rfl rfl (by decide) ?_
  refine TrOps.sem (OpSem.bin rfl rfl rfl bneq) rfl rfl (by decide) ?_
  refine TrOps.nil ?_
  refine At.seq ?_
  refine Tr.cond rfl (fun c10 => ?_) (fun c10 => ?_)
  · have hl : a.length ≠ b.length := by simp at c10; omega
    refine Tr.seq ?_
    refine Tr.region ?_
    refine TrOps.sem (OpSem.move (.inr rfl) rfl) rfl rfl (by decide) ?_
    refine TrOps.nil ?_
    refine At.seq ?_
    refine Tr.ret ?_
    refine At.pass_ret ?_
    exact At.ret rfl (.tmp rfl <| .nil) rfl (Le.bo (by simp; intro e; exact hl (by rw [e])))
  · have hl : a.length = b.length := by simp at c10; omega
    refine Tr.skip ?_
    refine At.seq ?_
    refine Tr.seq ?_
    refine Tr.seq ?_
    refine Tr.region ?_
    refine TrOps.sem (OpSem.move (.inr rfl) rfl) rfl rfl (by decide) ?_
    refine TrOps.nil ?_
    refine At.seq ?_
    refine Tr.block ?_
    refine Tr.loop (X := Nat) (fun k => k ≤ a.length ∧ ∀ i : Nat, i < k → nth a i = nth b i) (fun k => [(0, .d (ints a)), (1, .d (ints b)), (5, I (k))]) (fun k => []) (fun k => a.length - k) 0 ⟨by omega, by simp⟩ ?_ ?_
    · exact .slot rfl (.refl _) <| .slot rfl (.refl _) <| .slot rfl (Le.of_eq (by simp)) <| .nil
    · rintro k ⟨hkl, hinv⟩
      refine Tr.seq ?_
      refine Tr.seq ?_
      refine Tr.region ?_
      refine TrOps.sem (OpSem.move (.inl rfl) rfl) rfl rfl (by decide) ?_
      refine TrOps.sem (OpSem.move (.inl rfl) rfl) rfl rfl (by decide) ?_
      refine TrOps.sem (OpSem.lenL rfl rfl es22) rfl rfl (by decide) ?_
      refine TrOps.sem (OpSem.bin rfl rfl rfl blss) rfl rfl (by decide) ?_
      refine TrOps.nil ?_
      refine At.seq ?_
      refine Tr.cond rfl (fun c14 => ?_) (fun c14 => ?_)
      · have hk : k < a.length := by simpa using c14
        refine Tr.skip ?_
        refine At.seq ?_
        refine Tr.seq ?_
        refine Tr.block ?_
        refine Tr.seq ?_
        refine PC.start [] ?_
        refine PC.sem (OpSem.move (.inl rfl) rfl) rfl rfl ?_
        refine PC.sem (OpSem.move (.inl rfl) rfl) rfl rfl ?_
        refine PC.sem (OpSem.idxL rfl rfl rfl es22 (by omega) (by omega)) rfl rfl ?_
        refine PC.sem (OpSem.load1 rfl rfl vs3 rfl) rfl rfl ?_
        refine PC.sem (OpSem.move (.inl rfl) rfl) rfl rfl ?_
        refine PC.sem (OpSem.move (.inl rfl) rfl) rfl rfl ?_
        refine PC.sem (OpSem.idxL rfl rfl rfl es22 (by omega) (by omega)) rfl rfl ?_
        refine PC.sem (OpSem.load1 rfl rfl vs3 rfl) rfl rfl ?_
        refine PC.done0 mixed (by kernel_rfl) (by kernel_rfl) (by kernel_rfl) (by kernel_rfl) (by kernel_rfl) ?_
        refine TrOps.sem (OpSem.bin rfl rfl rfl bneq) rfl rfl (by decide) ?_
        refine TrOps.nil ?_
        refine At.seq ?_
        refine Tr.cond rfl (fun c25 => ?_) (fun c25 => ?_)
        · refine Tr.seq ?_
          refine Tr.region ?_
          refine TrOps.sem (OpSem.move (.inr rfl) rfl) rfl rfl (by decide) ?_
          refine TrOps.nil ?_
          refine At.seq ?_
          refine Tr.ret ?_
          refine At.block_ret ?_
          refine At.pass_ret ?_
          refine At.pass_ret ?_
          refine At.block_ret ?_
          refine At.pass_ret ?_
          exact At.ret rfl (.tmp rfl <| .nil) rfl (Le.bo (by simp; intro e; simp [e] at c25))
        · have hb : nth a k = nth b k := by simpa using c25
          refine Tr.skip ?_
          refine At.block_normal ?_
          refine At.seq ?_
          refine Tr.region ?_
          refine TrOps.sem (OpSem.move (.inl rfl) rfl) rfl rfl (by decide) ?_
          refine TrOps.sem (OpSem.bin rfl rfl rfl (badd (by omega) (by omega))) rfl rfl (by decide) ?_
          refine TrOps.sem (OpSem.move (.inr rfl) rfl) rfl rfl (by decide) ?_
          refine TrOps.nil ?_
          refine At.again (k + 1) ⟨by omega, all_succ hinv hb⟩ ?_ (by omega)
          exact .slot rfl (.refl _) <| .slot rfl (.refl _) <| .slot rfl (Le.of_eq (by simp)) <| .nil
      · have hk : k = a.length := by simp at c14; omega
        refine Tr.exit ?_
        refine At.pass_exit ?_
        refine At.pass_exit ?_
        refine At.block_same ?_
        refine At.seq ?_
        refine Tr.seq ?_
        refine Tr.region ?_
        refine TrOps.sem (OpSem.move (.inr rfl) rfl) rfl rfl (by decide) ?_
        refine TrOps.nil ?_
        refine At.seq ?_
        refine Tr.ret ?_
        exact At.ret rfl (.tmp rfl <| .nil) rfl (Le.bo (by simp; subst hk; exact ext_nth hl hinv))

end Go.Proofs.Ytohlmcebphcokaa
end

section
/- Walks, written by gen.py out of hints. -/




set_option linter.unusedVariables false
set_option linter.unusedSimpArgs false
namespace Go.Proofs.Ytohlmcebphcokaa
open Go.Eng
set_option maxRecDepth 10000
set_option maxHeartbeats 1000000

theorem slices_Clone_int_int_does (l : List Int) (hl : l.length ≤ 1000000) : DoesO Try.prog 55 [.d (ints l)] 1 3 ((l.map fun n => [D.v (.int .i64 n)])) := by
  refine DoesO.of_body Try.func55 rfl rfl (by simp) Try.call55 (fun w0 O0 => ?_)
  refine Tr.lenLe (n := 0) rfl (fun len0 => ?_)
  refine Tr.seq ?_
  refine Tr.region ?_
  refine TrOps.sem (OpSem.move (.inr rfl) rfl) rfl rfl (by decide) ?_
  refine TrOps.nil ?_
  refine At.seq ?_
  refine Tr.seq ?_
  refine Tr.seq ?_
  refine Tr.region ?_
  refine TrOps.sem (OpSem.move (.inl rfl) rfl) rfl rfl (by decide) ?_
  refine TrOps.eqNil rfl rfl es22 rfl rfl (by decide) (fun b4 hb4 => ?_)
  refine TrOps.nil ?_
  refine At.seq ?_
  refine Tr.cond rfl (fun c4 => ?_) (fun c4 => ?_)
  · refine Tr.seq ?_
    refine Tr.region ?_
    refine TrOps.sem (OpSem.move (.inr rfl) rfl) rfl rfl (by decide) ?_
    refine TrOps.nil ?_
    refine At.seq ?_
    refine Tr.ret ?_
    refine At.pass_ret ?_
    exact At.retONil rfl rfl (hb4 c4)
  · refine Tr.skip ?_
    refine At.seq ?_
    refine Tr.seq ?_
    refine Tr.region ?_
    refine TrOps.semM (OpSem.buildO 5 rfl es22 (by decide)) rfl rfl (by decide) ?_
    refine TrOps.sem (OpSem.move (.inl rfl) rfl) rfl rfl (by decide) ?_
    refine TrOps.append rfl rfl rfl (by decide) rfl rfl rfl es22 el22 zc3 rfl by3 (by simp [D.one, Value.oneCell']) (by simp [maxLen]; omega) (by simp; omega) ?_
    refine TrOps.sem (OpSem.move (.inr rfl) rfl) rfl rfl (by decide) ?_
    refine TrOps.nil ?_
    refine At.seq ?_
    refine Tr.ret ?_
    exact At.retO2 rfl rfl rfl (by simp) (by simp)

theorem R_Copy_does (l : List Int) (hl : l.length ≤ 1000000) : DoesO Try.prog 77 [.d (ints l)] 1 3 ((l.map fun n => [D.v (.int .i64 n)])) := by
  refine DoesO.of_body Try.func77 rfl rfl (by simp) Try.call77 (fun w0 O0 => ?_)
  refine Tr.lenLe (n := 0) rfl (fun len0 => ?_)
  refine Tr.seq ?_
  refine Tr.region ?_
  refine TrOps.sem (OpSem.move (.inr rfl) rfl) rfl rfl (by decide) ?_
  refine TrOps.nil ?_
  refine At.seq ?_
  refine Tr.seq ?_
  refine Tr.region ?_
  refine TrOps.sem (OpSem.move (.inr rfl) rfl) rfl rfl (by decide) ?_
  refine TrOps.nil ?_
  refine At.seq ?_
  refine Tr.seq ?_
  refine Tr.ownNil (n := 3) 3 1 3 rfl ?_
  refine Tr.region ?_
  refine TrOps.sem (OpSem.move (.inl rfl) rfl) rfl rfl (by decide) ?_
  refine TrOps.sem (OpSem.move (.inl rfl) rfl) rfl rfl (by decide) ?_
  refine TrOps.append rfl rfl rfl (by decide) rfl rfl rfl es22 el22 zc3 rfl by3 (by simp [D.one, Value.oneCell']) (by simp [maxLen]; omega) (by simp; omega) ?_
  refine TrOps.sem (OpSem.move (.inr rfl) rfl) rfl rfl (by decide) ?_
  refine TrOps.nil ?_
  refine At.seq ?_
  refine Tr.ret ?_
  exact At.retO2 rfl rfl rfl (by simp) (by simp)

end Go.Proofs.Ytohlmcebphcokaa
end

section
/- Ranks of states; the least slack and the greatest goal value over all states. -/

set_option linter.unusedVariables false
set_option linter.unusedSimpArgs false
namespace Go.Eng
open Go Go.RowKit

theorem DoesO.fresh {P : Program} {f : Nat} {args : List S} {k T : Nat} {rows : List (List D)} (h : DoesO P f args k T rows) : Does P true f args (.d (.s k rows)) :=
  ⟨h.can, fun O w xs hl hx => (h.run O w xs hl hx).mono fun en w' ⟨x, he, hb, hr⟩ => ⟨x, he, hb, by
    rcases hr with ⟨rfl, rfl⟩ | ⟨b, cap, xs', rfl, hB, hbl, hlc, hcm, hsz, hw, hc⟩
    · exact .d _ _ (.e none 0 k (by simp [maxLen]))
    · refine .d _ _ (.s b 0 cap k rows (fun n => (xs'[n]?).getD undef) hlc hcm hw (fun _ _ _ _ _ _ => by simp [freshO, Fr, hB]) (fun i r j d hi hj => ?_) (fun i r j d hi hj => ?_))
      · obtain ⟨y, hy, _⟩ := hc i r j d hi hj
        rw [cellOf hbl (by rw [Nat.zero_add]; exact hy), hy]; rfl
      · obtain ⟨y, hy, rfl, _⟩ := hc i r j d hi hj
        simp only [hy, Option.getD_some]
        exact .v _⟩⟩

def ranksTo (sizes : List Int) : Nat → Int
  | 0 => 1
  | k + 1 => ranksTo sizes k * nth sizes k
def ranks (sizes : List Int) : Int := ranksTo sizes sizes.length
/-- What is left of a number behind j digits. -/
def quoTo (sizes : List Int) (n : Int) : Nat → Int
  | 0 => n
  | j + 1 => quoTo sizes n j / nth sizes (sizes.length - 1 - j : Nat)
def digit (sizes : List Int) (n : Int) (v : Nat) : Int := quoTo sizes n (sizes.length - 1 - v) % nth sizes v
def unrank (sizes : List Int) (n : Int) : List Int := (List.range sizes.length).map fun (v : Nat) => digit sizes n v
/-- The digits, but for the first few. -/
def unrTo (sizes : List Int) (n : Int) (j : Nat) : List Int := (List.range sizes.length).map fun (v : Nat) => if sizes.length - j ≤ v then digit sizes n v else 0
def rankTo (sizes s : List Int) : Nat → Int
  | 0 => 0
  | k + 1 => rankTo sizes s k * nth sizes k + nth s k
def rank (sizes s : List Int) : Int := rankTo sizes s s.length
/-! ### Over all states -/
def leastTo (p : List Int → Bool) (f : List Int → Int) (sizes : List Int) : Nat → Int
  | 0 => 1000000000
  | n + 1 => if p (unrank sizes n) = true then min (leastTo p f sizes n) (f (unrank sizes n)) else leastTo p f sizes n
def greatTo (p : List Int → Bool) (f : List Int → Int) (sizes : List Int) : Nat → Int
  | 0 => -1000000000
  | n + 1 => if p (unrank sizes n) = true then max (greatTo p f sizes n) (f (unrank sizes n)) else greatTo p f sizes n
section
variable {p : List Int → Bool} {f : List Int → Int} {sizes : List Int}
end
def slackAt (w : List (List Int)) (o : MOp) (s : List Int) : Int := o.cost - val w s + val w (nextS s o.post)
def leastSlack (m : Multi) (w : List (List Int)) (o : MOp) (n : Nat) : Int := leastTo (fun s => holds s o.pre) (slackAt w o) m.sizes n
def greatGoal (m : Multi) (w : List (List Int)) (n : Nat) : Int := greatTo (fun s => holds s m.goal) (val w) m.sizes n
end Go.Eng
end

section
/- Walks, written by gen.py out of hints. -/



set_option linter.unusedVariables false
set_option linter.unusedSimpArgs false
namespace Go.Proofs.Ytohlmcebphcokaa
open Go.Eng
set_option maxRecDepth 10000
set_option maxHeartbeats 1000000

end Go.Proofs.Ytohlmcebphcokaa
end

section
/- The costs of all states: the sweeps, and what bounds them from below. Plain functions behind project's laws: patterns and what they leave. -/

set_option linter.unusedVariables false
set_option linter.unusedSimpArgs false
set_option linter.unusedSectionVars false
namespace Go.Eng
open Go

abbrev stAt (m : Multi) (n : Nat) : List Int := unrank m.sizes n
/-- The rank behind an operator. -/
def rkAt (m : Multi) (n j : Nat) : Int := rank m.sizes (nextS (stAt m n) (nth m.ops j).post)
def initC (m : Multi) (k : Nat) : List Int := (List.range k).map fun n => if holds (stAt m n) m.goal = true then 0 else 1000000000
def stepC (m : Multi) (c : List Int × Bool) (n j : Nat) : List Int × Bool :=
  if holds (stAt m n) (nth m.ops j).pre = true then
    if nth c.1 (rkAt m n j) < 1000000000 ∧ nth c.1 (rkAt m n j) + (nth m.ops j).cost < nth c.1 n then (setI c.1 n (nth c.1 (rkAt m n j) + (nth m.ops j).cost), true) else c
  else c
def opsTo (m : Multi) (c : List Int × Bool) (n : Nat) : Nat → List Int × Bool
  | 0 => c
  | j + 1 => stepC m (opsTo m c n j) n j
def sweepTo (m : Multi) (c : List Int) : Nat → List Int × Bool
  | 0 => (c, false)
  | n + 1 => opsTo m (sweepTo m c n) n m.ops.length
def nR (m : Multi) : Nat := (ranks m.sizes).toNat
def sweep (m : Multi) (c : List Int) : List Int × Bool := sweepTo m c (nR m)
def itC (m : Multi) : Nat → List Int
  | 0 => initC m (nR m)
  | j + 1 => (sweep m (itC m j)).1
open Classical in
noncomputable def costs (m : Multi) : List Int := if h : ∃ j, (sweep m (itC m j)).2 = false then itC m (Classical.choose h) else List.replicate (nR m) 1000000000

section
variable {m : Multi} (hv : Valid m)
include hv
def GoodC (m : Multi) (c : List Int) : Prop := c.length = nR m ∧ ∀ n : Int, 0 ≤ n → n < nR m → 0 ≤ nth c n ∧ nth c n ≤ 1000000000
end

/-! ### The sum goes down -/
theorem sum_set : ∀ {l : List Int} {i : Nat} {x : Int} (h : i < l.length), (l.set i x).sum = l.sum - l[i] + x
  | a :: l, 0, x, h => by simp; omega
  | a :: l, i + 1, x, h => by
    have := sum_set (l := l) (i := i) (x := x) (by simpa using h)
    simp only [List.set_cons_succ, List.sum_cons, List.getElem_cons_succ]
    omega
theorem sum_nn : ∀ {l : List Int}, (∀ x, x ∈ l → 0 ≤ x) → 0 ≤ l.sum
  | [], _ => by simp
  | a :: l, h => by
    have h1 := h a (by simp)
    have h2 := sum_nn (l := l) (fun x hx => h x (by simp [hx]))
    simp only [List.sum_cons]
    omega
/-- Behind c0, with the flag: nothing has changed, or the sum is less. -/
def Down (c0 : List Int) (c : List Int × Bool) : Prop := (c.2 = false ∧ c.1 = c0) ∨ (c.2 = true ∧ c.1.sum < c0.sum)
section
variable {m : Multi} (hv : Valid m)
include hv
omit hv in
theorem itC_stay {j : Nat} (h : (sweep m (itC m j)).2 = false) (he : itC m (j + 1) = itC m j) : ∀ d, itC m (j + d) = itC m j
  | 0 => rfl
  | d + 1 => by
    have ih := itC_stay h he d
    show (sweep m (itC m (j + d))).1 = _
    rw [ih]; exact he
end

/-! ### The walk's words -/
/-- Is another sweep due? -/
def flagC (m : Multi) : Nat → Bool
  | 0 => true
  | j + 1 => (sweep m (itC m j)).2
section
variable {m : Multi} (hv : Valid m)
include hv
end
end Go.Eng

set_option linter.unusedVariables false
set_option linter.unusedSimpArgs false
set_option linter.unusedSectionVars false
namespace Go.Eng
open Go

abbrev PatOk (sizes vars : List Int) (i : Nat) : Prop := 0 ≤ nth vars i ∧ nth vars i < sizes.length ∧ (0 < i → nth vars (i - 1 : Int) < nth vars i)
abbrev PatP (sizes vars : List Int) : Prop := ∀ i : Nat, i < vars.length → PatOk sizes vars i
def patCode (sizes vars : List Int) : Int := if vars.length = 0 then 9 else if ¬ PatP sizes vars then 5 else 0
def patFault (sizes vars : List Int) (i : Int) : Int × Int := if patCode sizes vars = 0 then (0, 0) else (patCode sizes vars, i)
/-- The places of a pattern, out of a list. -/
def sel (s vars : List Int) : List Int := vars.map fun v => nth s v
def selTo (s vars : List Int) (k : Nat) : List Int := (List.range k).map fun (i : Nat) => nth s (nth vars i)
/-- The fault of a task and a pattern. -/
def projFault (m : Multi) (vars : List Int) : Int × Int := if validate m = (0, 0) then patFault m.sizes vars (-8) else validate m
def prodTo (sizes vars : List Int) : Nat → Int
  | 0 => 1
  | k + 1 => prodTo sizes vars k * nth sizes (nth vars k)
/-- An assignment under a pattern: at the places of its variable. -/
def matchR (a : Asg) (vars : List Int) : Nat → List Asg
  | 0 => []
  | j + 1 => if a.1 = nth vars j then matchR a vars j ++ [((j : Int), a.2)] else matchR a vars j
def restrictTo (l : List Asg) (vars : List Int) : Nat → List Asg
  | 0 => []
  | k + 1 => restrictTo l vars k ++ matchR (nth l k) vars vars.length
def matchK (v i : Int) (l : List Asg) : Nat → List Asg
  | 0 => []
  | j + 1 => if (nth l j).1 = v then matchK v i l j ++ [(i, (nth l j).2)] else matchK v i l j
def keptTo (l : List Asg) (vars : List Int) : Nat → List Asg
  | 0 => []
  | k + 1 => keptTo l vars k ++ matchK (nth vars k) k l l.length
end Go.Eng
end

section
/- Walks, written by gen.py out of hints. -/



set_option linter.unusedVariables false
set_option linter.unusedSimpArgs false
namespace Go.Proofs.Ytohlmcebphcokaa
open Go.Eng
set_option maxRecDepth 10000
set_option maxHeartbeats 1000000

end Go.Proofs.Ytohlmcebphcokaa
end

section
/- Projections: the projected task, what it keeps, and its costs. -/

set_option linter.unusedVariables false
set_option linter.unusedSimpArgs false
set_option linter.unusedSectionVars false
namespace Go.Eng
open Go

/-! ### Sorted assignments -/
abbrev SortedA (l : List Asg) : Prop := l.Pairwise fun a b => a.1 < b.1
theorem ext_get {α : Type} [Inhabited α] {l l' : List α} (hl : l.length = l'.length) (h : ∀ i : Nat, i < l.length → nth l i = nth l' i) : l = l' := by
  refine List.ext_getElem hl fun i h1 h2 => ?_
  have := h i h1
  rwa [nth_eq h1, nth_eq h2] at this
/-! ### What a pattern leaves of assignments -/
/-- What a pattern leaves of a list of assignments. -/
def restr (l : List Asg) (vars : List Int) : List Asg := restrictTo l vars l.length
/-- The projected task. -/
def projM (m : Multi) (vars : List Int) : Multi := ⟨sel m.sizes vars, sel m.init vars, restr m.goal vars, m.ops.map fun o => ⟨restr o.pre vars, restr o.post vars, o.cost⟩⟩
section
variable {sizes vars : List Int} (hp : PatP sizes vars)
include hp
end
/-! ### Costs are consistent -/
section
variable {m : Multi} (hv : Valid m)
include hv
omit hv in
theorem stepC_flag {c : List Int × Bool} {n j : Nat} (h : (stepC m c n j).2 = false) (hh : c.2 = false) : stepC m c n j = c := by
  unfold stepC at h ⊢
  split at h
  · rename_i hp
    rw [if_pos hp]
    split at h
    · cases h
    · rename_i hk; rw [if_neg hk]
  · rename_i hp; rw [if_neg hp]
omit hv in
theorem stepC_true {c : List Int × Bool} {n j : Nat} (hh : c.2 = true) : (stepC m c n j).2 = true := by
  unfold stepC
  split
  · split
    · rfl
    · exact hh
  · exact hh
omit hv in
theorem opsTo_true {c : List Int × Bool} {n : Nat} (hh : c.2 = true) : ∀ k : Nat, (opsTo m c n k).2 = true
  | 0 => hh
  | k + 1 => stepC_true (opsTo_true hh k)
omit hv in
theorem opsTo_flag {c : List Int × Bool} {n : Nat} : ∀ {k : Nat}, (opsTo m c n k).2 = false → c.2 = false ∧ opsTo m c n k = c ∧ ∀ j : Nat, j < k → stepC m c n j = c
  | 0, h => ⟨h, rfl, fun j hj => by omega⟩
  | k + 1, h => by
    have h1 : (opsTo m c n k).2 = false := by
      cases hf : (opsTo m c n k).2 with
      | false => rfl
      | true => have := stepC_true (m := m) (n := n) (j := k) hf; have h' : (stepC m (opsTo m c n k) n k).2 = false := h; rw [this] at h'; cases h'
    obtain ⟨a, b, d⟩ := opsTo_flag h1
    have h2 : stepC m (opsTo m c n k) n k = opsTo m c n k := stepC_flag h h1
    refine ⟨a, by show stepC m (opsTo m c n k) n k = c; rw [h2, b], fun j hj => ?_⟩
    by_cases hjk : j = k
    · subst hjk; rw [b] at h2; exact h2
    · exact d j (by omega)
omit hv in
theorem sweepTo_flag {c : List Int} : ∀ {k : Nat}, (sweepTo m c k).2 = false → sweepTo m c k = (c, false) ∧ ∀ n : Nat, n < k → ∀ j : Nat, j < m.ops.length → stepC m (c, false) n j = (c, false)
  | 0, h => ⟨rfl, fun n hn => by omega⟩
  | k + 1, h => by
    obtain ⟨a, b, d⟩ := opsTo_flag (c := sweepTo m c k) h
    obtain ⟨e, f⟩ := sweepTo_flag a
    refine ⟨by show opsTo m (sweepTo m c k) k m.ops.length = _; rw [b, e], fun n hn j hj => ?_⟩
    by_cases hnk : n = k
    · subst hnk; have := d j hj; rwa [e] at this
    · exact f n (by omega) j hj
end
/-- The pattern of all variables. -/
def allV (n : Nat) : List Int := (List.range n).map fun (i : Nat) => (i : Int)
/-- A pattern inside another one: where its variables stand. -/
def posIn (W vars : List Int) : List Int := vars.map fun v => ((W.idxOf v : Nat) : Int)
section
variable {sizes W vars : List Int} (hW : PatP sizes W) (hp : PatP sizes vars) (hin : ∀ i : Nat, i < vars.length → nth vars i ∈ W)
include hin
include hW hp
end
end Go.Eng
end

section
/- Projections: what the package's functions answer; all states in order. Projections: the laws in plain words. -/

set_option linter.unusedVariables false
set_option linter.unusedSimpArgs false
set_option linter.unusedSectionVars false
namespace Go.Eng
open Go

/-! ### All states, in order -/
def expR (s : List Int) (c : Nat) : List (List Int) := (List.range c).map fun (v : Nat) => s ++ [(v : Int)]
def expTo (l : List (List Int)) (c : Nat) : Nat → List (List Int)
  | 0 => []
  | i + 1 => expTo l c i ++ expR (nth l i) c
def statesTo (sizes : List Int) : Nat → List (List Int)
  | 0 => [[]]
  | k + 1 => expTo (statesTo sizes k) (nth sizes k).toNat (statesTo sizes k).length
/-- The first places of a state. -/
abbrev PreP (sizes s : List Int) (k : Nat) : Prop := s.length = k ∧ ∀ v : Nat, v < k → 0 ≤ nth s v ∧ nth s v < nth sizes v
def statesL (sizes : List Int) : List (List Int) := statesTo sizes sizes.length
/-! ### The first estimates -/
def fillTo (m : Multi) (k : Nat) : List Int := (List.range (nR m)).map fun n => if n < k then (if holds (stAt m n) m.goal = true then 0 else 1000000000) else 0
/-! ### The answers -/
def bigF (m : Multi) (vars : List Int) (f : Int × Int) : Int × Int := if f = (0, 0) ∧ 2000 < prodTo m.sizes vars vars.length then (10, -7) else f
def distF (m : Multi) (vars : List Int) : Int × Int := bigF m vars (projFault m vars)
def stpF (m : Multi) (vars s : List Int) : Int × Int := if stateFault m s = (0, 0) then patFault m.sizes vars (-8) else stateFault m s
def valF (m : Multi) (vars s : List Int) : Int × Int := bigF m vars (stpF m vars s)
noncomputable def distR (m : Multi) (vars : List Int) : List Int := if distF m vars = (0, 0) then costs (projM m vars) else []
def projR (m : Multi) (vars : List Int) : Multi := if projFault m vars = (0, 0) then projM m vars else ⟨[], [], [], []⟩
noncomputable def pval (m : Multi) (vars s : List Int) : Int := nth (costs (projM m vars)) (rank (projM m vars).sizes (sel s vars))
noncomputable def valR (m : Multi) (vars s : List Int) : Int := if valF m vars s = (0, 0) then pval m vars s else 0
def opTo (m : Multi) (vars : List Int) (k : Nat) : List MOp := (List.range k).map fun (i : Nat) => ⟨restr (nth m.ops i).pre vars, restr (nth m.ops i).post vars, (nth m.ops i).cost⟩
/-! ### Sets, and a number put into one -/
abbrev SetOk (n : Int) (l : List Int) (i : Nat) : Prop := 0 ≤ nth l i ∧ nth l i < n ∧ (0 < i → nth l (i - 1 : Int) < nth l i)
abbrev SetP (n : Int) (l : List Int) : Prop := ∀ i : Nat, i < l.length → SetOk n l i
def addP (f : Int × Int) (sizes vars : List Int) (i : Int) : Int × Int := if f.1 = 0 ∧ patCode sizes vars ≠ 0 then (patCode sizes vars, i) else f
def cutN (l : List Int) (n : Int) : Nat := (firstBad l.length (fun i => decide (nth l i < n))).getD l.length
def withL (l : List Int) (n : Int) : List Int := l.take (cutN l n) ++ [n] ++ l.drop (if cutN l n < l.length ∧ nth l (cutN l n) = n then cutN l n + 1 else cutN l n)
end Go.Eng

set_option linter.unusedVariables false
set_option linter.unusedSimpArgs false
set_option linter.unusedSectionVars false
namespace Go.Eng
open Go
end Go.Eng
end

section
/- Walks, written by gen.py out of hints. -/





set_option linter.unusedVariables false
set_option linter.unusedSimpArgs false
namespace Go.Proofs.Ytohlmcebphcokaa
open Go.Eng
set_option maxRecDepth 10000
set_option maxHeartbeats 1000000

theorem R_IsSet_does (l : List Int) (n : Int) (hn : -9223372036854775807 ≤ n ∧ n ≤ 9223372036854775807) : Does Try.prog false 75 [.d (ints l), I (n)] (Bo (decide (SetP n l))) := by
  refine Does.of_body Try.func75 rfl rfl (by simp) Try.call75 (fun w0 O0 => ?_)
  refine Tr.lenLe (n := 0) rfl (fun len0 => ?_)
  refine Tr.seq ?_
  refine Tr.region ?_
  refine TrOps.sem (OpSem.move (.inr rfl) rfl) rfl rfl (by decide) ?_
  refine TrOps.nil ?_
  refine At.seq ?_
  refine Tr.seq ?_
  refine Tr.seq ?_
  refine Tr.region ?_
  refine TrOps.sem (OpSem.move (.inr rfl) rfl) rfl rfl (by decide) ?_
  refine TrOps.nil ?_
  refine At.seq ?_
  refine Tr.block ?_
  refine Tr.loop (X := Nat) (fun k => k ≤ l.length ∧ ∀ i : Nat, i < k → SetOk n l i) (fun k => [(0, .d (ints l)), (1, I (n)), (5, I (k))]) (fun k => []) (fun k => l.length - k) 0 ⟨by omega, by simp⟩ ?_ ?_
  · exact .slot rfl (.refl _) <| .slot rfl (.refl _) <| .slot rfl (Le.of_eq (by simp)) <| .nil
  · rintro k ⟨hkl, hinv⟩
    refine Tr.seq ?_
    refine Tr.seq ?_
    refine Tr.region ?_
    refine TrOps.sem (OpSem.move (.inl rfl) rfl) rfl rfl (by decide) ?_
    refine TrOps.sem (OpSem.move (.inl rfl) rfl) rfl rfl (by decide) ?_
    refine TrOps.sem (OpSem.lenL rfl rfl es22) rfl rfl (by decide) ?_
    refine TrOps.sem (OpSem.bin rfl rfl rfl blss) rfl rfl (by decide) ?_
    refine TrOps.nil ?_
    refine At.seq ?_
    refine Tr.cond rfl (fun c9 => ?_) (fun c9 => ?_)
    · have hk : k < l.length := by simpa using c9
      refine Tr.skip ?_
      refine At.seq ?_
      refine Tr.seq ?_
      refine Tr.block ?_
      refine Tr.seq ?_
      refine PC.start [] ?_
      refine PC.sem (OpSem.move (.inl rfl) rfl) rfl rfl ?_
      refine PC.sem (OpSem.move (.inl rfl) rfl) rfl rfl ?_
      refine PC.sem (OpSem.idxL rfl rfl rfl es22 (by omega) (by omega)) rfl rfl ?_
      refine PC.sem (OpSem.load1 rfl rfl vs3 rfl) rfl rfl ?_
      refine PC.sem (OpSem.move (.inl rfl) rfl) rfl rfl ?_
      refine PC.sem (OpSem.bin rfl rfl rfl (bsub (by omega) (by omega))) rfl rfl ?_
      refine PC.sem (OpSem.call0 (R_In_does ..) rfl rfl rfl rfl (Les.refl _)) rfl rfl ?_
      refine PC.sem (OpSem.not rfl rfl) rfl rfl ?_
      refine PC.sem (OpSem.move (.inl rfl) rfl) rfl rfl ?_
      refine PC.split (n := 20) rfl (fun c20 => ?_) (fun c20 => ?_)
      · refine PC.gF rfl rfl rfl rfl c20 rfl ?_
        refine PC.gF rfl rfl rfl rfl c20 rfl ?_
        refine PC.gF rfl rfl rfl rfl c20 rfl ?_
        refine PC.gU rfl rfl rfl rfl rfl ?_
        refine PC.gU rfl rfl rfl rfl rfl ?_
        refine PC.gU rfl rfl rfl rfl rfl ?_
        refine PC.gU rfl rfl rfl rfl rfl ?_
        refine PC.gU rfl rfl rfl rfl rfl ?_
        refine PC.gU rfl rfl rfl rfl rfl ?_
        refine PC.gU rfl rfl rfl rfl rfl ?_
        refine PC.gU rfl rfl rfl rfl rfl ?_
        refine PC.gU rfl rfl rfl rfl rfl ?_
        refine PC.done0 mixed (by kernel_rfl) (by kernel_rfl) (by kernel_rfl) (by kernel_rfl) (by kernel_rfl) ?_
        refine TrOps.gU rfl rfl rfl rfl rfl (by decide) ?_
        refine TrOps.gF rfl rfl rfl rfl c20 rfl (by decide) ?_
        refine TrOps.sem (OpSem.pickT rfl rfl c20 rfl) rfl rfl (by decide) ?_
        refine TrOps.nil ?_
        refine At.seq ?_
        refine Tr.condT rfl rfl ?_
        refine Tr.seq ?_
        refine Tr.region ?_
        refine TrOps.sem (OpSem.move (.inr rfl) rfl) rfl rfl (by decide) ?_
        refine TrOps.nil ?_
        refine At.seq ?_
        refine Tr.ret ?_
        refine At.block_ret ?_
        refine At.pass_ret ?_
        refine At.pass_ret ?_
        refine At.block_ret ?_
        refine At.pass_ret ?_
        exact At.ret rfl (.tmp rfl <| .nil) rfl (Le.bo (decide_eq_false (fun h => by have := h k hk; simp at c20; omega)).symm)
      · refine PC.gT (OpSem.move (.inl rfl) rfl) rfl rfl rfl rfl c20 rfl ?_
        refine PC.gT (OpSem.bin rfl rfl rfl bgtr) rfl rfl rfl rfl c20 rfl ?_
        refine PC.gT (OpSem.move (.inl rfl) rfl) rfl rfl rfl rfl c20 rfl ?_
        refine PC.split (n := 23) rfl (fun c23 => ?_) (fun c23 => ?_)
        · have hkp : 0 < k := by simp at c23; omega
          refine PC.gT (OpSem.move (.inl rfl) rfl) rfl rfl rfl rfl c23 rfl ?_
          refine PC.gT (OpSem.move (.inl rfl) rfl) rfl rfl rfl rfl c23 rfl ?_
          refine PC.gT (OpSem.idxL rfl rfl rfl es22 (by omega) (by omega)) rfl rfl rfl rfl c23 rfl ?_
          refine PC.gT (OpSem.load1 rfl rfl vs3 rfl) rfl rfl rfl rfl c23 rfl ?_
          refine PC.gT (OpSem.move (.inl rfl) rfl) rfl rfl rfl rfl c23 rfl ?_
          refine PC.gT (OpSem.move (.inl rfl) rfl) rfl rfl rfl rfl c23 rfl ?_
          refine PC.gT (OpSem.bin rfl rfl rfl (bsub (by omega) (by omega))) rfl rfl rfl rfl c23 rfl ?_
          refine PC.gT (OpSem.idxL rfl rfl rfl es22 (by omega) (by omega)) rfl rfl rfl rfl c23 rfl ?_
          refine PC.gT (OpSem.load1 rfl rfl vs3 rfl) rfl rfl rfl rfl c23 rfl ?_
          refine PC.done0 mixed (by kernel_rfl) (by kernel_rfl) (by kernel_rfl) (by kernel_rfl) (by kernel_rfl) ?_
          refine TrOps.gT rfl rfl rfl rfl c23 ?_
          refine TrOps.sem (OpSem.bin rfl rfl rfl bleq) rfl rfl (by decide) ?_
          refine TrOps.gT rfl rfl rfl rfl c20 ?_
          refine TrOps.sem (OpSem.pickT rfl rfl c23 rfl) rfl rfl (by decide) ?_
          refine TrOps.sem (OpSem.pickF rfl rfl c20 rfl) rfl rfl (by decide) ?_
          refine TrOps.nil ?_
          refine At.seq ?_
          refine Tr.cond rfl (fun c35 => ?_) (fun c35 => ?_)
          · refine Tr.seq ?_
            refine Tr.region ?_
            refine TrOps.sem (OpSem.move (.inr rfl) rfl) rfl rfl (by decide) ?_
            refine TrOps.nil ?_
            refine At.seq ?_
            refine Tr.ret ?_
            refine At.block_ret ?_
            refine At.pass_ret ?_
            refine At.pass_ret ?_
            refine At.block_ret ?_
            refine At.pass_ret ?_
            exact At.ret rfl (.tmp rfl <| .nil) rfl (Le.bo (decide_eq_false (fun h => by have h1 := (h k hk).2.2 hkp; simp at c35; omega)).symm)
          · refine Tr.skip ?_
            refine At.block_normal ?_
            refine At.seq ?_
            refine Tr.region ?_
            refine TrOps.sem (OpSem.move (.inl rfl) rfl) rfl rfl (by decide) ?_
            refine TrOps.sem (OpSem.bin rfl rfl rfl (badd (by omega) (by omega))) rfl rfl (by decide) ?_
            refine TrOps.sem (OpSem.move (.inr rfl) rfl) rfl rfl (by decide) ?_
            refine TrOps.nil ?_
            have hb : SetOk n l k := by first | (simp at c20 c35; exact ⟨by omega, by omega, fun h => by omega⟩) | (simp at c20 c23; exact ⟨by omega, by omega, fun h => by omega⟩)
            refine At.again (k + 1) ⟨by omega, all_succ hinv hb⟩ ?_ (by omega)
            exact .slot rfl (.refl _) <| .slot rfl (.refl _) <| .slot rfl (Le.of_eq (by simp)) <| .nil
        · refine PC.gF rfl rfl rfl rfl c23 rfl ?_
          refine PC.gF rfl rfl rfl rfl c23 rfl ?_
          refine PC.gF rfl rfl rfl rfl c23 rfl ?_
          refine PC.gF rfl rfl rfl rfl c23 rfl ?_
          refine PC.gF rfl rfl rfl rfl c23 rfl ?_
          refine PC.gF rfl rfl rfl rfl c23 rfl ?_
          refine PC.gF rfl rfl rfl rfl c23 rfl ?_
          refine PC.gF rfl rfl rfl rfl c23 rfl ?_
          refine PC.gF rfl rfl rfl rfl c23 rfl ?_
          refine PC.done0 mixed (by kernel_rfl) (by kernel_rfl) (by kernel_rfl) (by kernel_rfl) (by kernel_rfl) ?_
          refine TrOps.gF rfl rfl rfl rfl c23 rfl (by decide) ?_
          refine TrOps.gT rfl rfl rfl rfl c20 ?_
          refine TrOps.sem (OpSem.pickF rfl rfl c23 rfl) rfl rfl (by decide) ?_
          refine TrOps.sem (OpSem.pickF rfl rfl c20 rfl) rfl rfl (by decide) ?_
          refine TrOps.nil ?_
          refine At.seq ?_
          refine Tr.condF rfl rfl ?_
          refine Tr.skip ?_
          refine At.block_normal ?_
          refine At.seq ?_
          refine Tr.region ?_
          refine TrOps.sem (OpSem.move (.inl rfl) rfl) rfl rfl (by decide) ?_
          refine TrOps.sem (OpSem.bin rfl rfl rfl (badd (by omega) (by omega))) rfl rfl (by decide) ?_
          refine TrOps.sem (OpSem.move (.inr rfl) rfl) rfl rfl (by decide) ?_
          refine TrOps.nil ?_
          have hb : SetOk n l k := by first | (simp at c20 c35; exact ⟨by omega, by omega, fun h => by omega⟩) | (simp at c20 c23; exact ⟨by omega, by omega, fun h => by omega⟩)
          refine At.again (k + 1) ⟨by omega, all_succ hinv hb⟩ ?_ (by omega)
          exact .slot rfl (.refl _) <| .slot rfl (.refl _) <| .slot rfl (Le.of_eq (by simp)) <| .nil
    · have hk : k = l.length := by simp at c9; omega
      refine Tr.exit ?_
      refine At.pass_exit ?_
      refine At.pass_exit ?_
      refine At.block_same ?_
      refine At.seq ?_
      refine Tr.seq ?_
      refine Tr.region ?_
      refine TrOps.sem (OpSem.move (.inr rfl) rfl) rfl rfl (by decide) ?_
      refine TrOps.nil ?_
      refine At.seq ?_
      refine Tr.ret ?_
      exact At.ret rfl (.tmp rfl <| .nil) rfl (Le.bo (decide_eq_true (by subst hk; exact hinv)).symm)

end Go.Proofs.Ytohlmcebphcokaa
end

section
/- Graphs with labelled arcs: data, faults, distances. -/

set_option linter.unusedVariables false
set_option linter.unusedSimpArgs false
set_option linter.unusedSectionVars false
namespace Go.Eng
open Go

structure Arc where
  fr : Int
  lab : Int
  to : Int
deriving DecidableEq
instance : Inhabited Arc := ⟨⟨0, 0, 0⟩⟩
structure Abs where
  states : Int
  labels : Int
  arcs : List Arc
  init : Int
  goals : List Int
deriving DecidableEq
instance : Inhabited Abs := ⟨⟨0, 0, [], 0, []⟩⟩
abbrev arcC (x : Arc) : List D := [.v (.int .i64 x.fr), .v (.int .i64 x.lab), .v (.int .i64 x.to)]
abbrev arcsD (l : List Arc) : D := .s 3 (l.map arcC)
abbrev arcS (x : Arc) : S := .g [I x.fr, I x.lab, I x.to]
abbrev absC (a : Abs) : List D := [.v (.int .i64 a.states), .v (.int .i64 a.labels), arcsD a.arcs, .v (.int .i64 a.init), ints a.goals]
abbrev absS (a : Abs) : S := .g [I a.states, I a.labels, .d (arcsD a.arcs), I a.init, .d (ints a.goals)]
abbrev abssD (l : List Abs) : D := .s 5 (l.map absC)

/-! ### The order of arcs -/
abbrev arcLt (x y : Arc) : Prop := x.fr < y.fr ∨ (x.fr = y.fr ∧ (x.lab < y.lab ∨ (x.lab = y.lab ∧ x.to < y.to)))
def cmpI (x y : Int) : Int := if x < y then -1 else if y < x then 1 else 0
theorem cmpI_1 {x y : Int} (h : x < y) : -1 = cmpI x y := by unfold cmpI; rw [if_pos h]
theorem cmpI_2 {x y : Int} (h : ¬ x < y) (h' : y < x) : 1 = cmpI x y := by unfold cmpI; rw [if_neg h, if_pos h']
theorem cmpI_3 {x y : Int} (h : ¬ x < y) (h' : ¬ y < x) : 0 = cmpI x y := by unfold cmpI; rw [if_neg h, if_neg h']
/-- The first number that is not 0. -/
def orI (l : List Int) : Int := (l.find? fun x => decide (x ≠ 0)).getD 0
theorem orI_some {l : List Int} {k : Nat} (hk : k < l.length) (h : ∀ j : Nat, j < k → nth l j = 0) (hp : nth l k ≠ 0) : nth l k = orI l := by
  unfold orI
  have h1 : l.find? (fun x => decide (x ≠ 0)) = some l[k] := by
    rw [List.find?_eq_some_iff_getElem]
    refine ⟨by rw [← nth_eq hk]; simpa using hp, k, hk, rfl, fun j hj => ?_⟩
    have := h j hj
    rw [nth_eq (by omega)] at this
    simp [this]
  rw [h1, nth_eq hk]; rfl
theorem orI_none {l : List Int} (h : ∀ j : Nat, j < l.length → nth l j = 0) : 0 = orI l := by
  unfold orI
  have h1 : l.find? (fun x => decide (x ≠ 0)) = none := by
    rw [List.find?_eq_none]
    intro x hx
    obtain ⟨i, hi, rfl⟩ := List.getElem_of_mem hx
    have := h i hi
    rw [nth_eq hi] at this
    simp [this]
  rw [h1]; rfl
def cmpArc (x y : Arc) : Int := orI [cmpI x.fr y.fr, cmpI x.lab y.lab, cmpI x.to y.to]
theorem cmpArc_lt {x y : Arc} : cmpArc x y < 0 ↔ arcLt x y := by
  unfold cmpArc orI
  simp only [List.find?_cons, List.find?_nil]
  unfold cmpI
  by_cases h1 : x.fr < y.fr
  · simp [h1]; exact .inl h1
  · by_cases h2 : y.fr < x.fr
    · simp [h1, h2]; omega
    · have e : x.fr = y.fr := by omega
      by_cases h3 : x.lab < y.lab
      · simp [h1, h2, h3, e]; exact .inr ⟨e, .inl h3⟩
      · by_cases h4 : y.lab < x.lab
        · simp [h1, h2, h3, h4, e]; omega
        · have e2 : x.lab = y.lab := by omega
          by_cases h5 : x.to < y.to
          · simp [h1, h2, h3, h4, h5, e, e2]; exact .inr ⟨e, .inr ⟨e2, h5⟩⟩
          · by_cases h6 : y.to < x.to
            · simp [h1, h2, h3, h4, h5, h6, e, e2]
              try omega
            · simp [h1, h2, h3, h4, h5, h6, e, e2]
theorem cmpArc_ge {x y : Arc} : 0 ≤ cmpArc x y ↔ ¬ arcLt x y := by
  rw [← cmpArc_lt]; omega

/-! ### Faults -/
abbrev arcIn (a : Abs) (x : Arc) : Prop := (0 ≤ x.fr ∧ x.fr < a.states) ∧ (0 ≤ x.lab ∧ x.lab < a.labels) ∧ (0 ≤ x.to ∧ x.to < a.states)
abbrev headOk (a : Abs) : Prop := (1 ≤ a.states ∧ a.states ≤ 60) ∧ (0 ≤ a.labels ∧ a.labels ≤ 40) ∧ (0 ≤ a.init ∧ a.init < a.states)
def arcFault (a : Abs) (i : Nat) : Int × Int := if ¬ arcIn a (nth a.arcs i) then (3, i) else if 0 < i ∧ ¬ arcLt (nth a.arcs (i - 1 : Int)) (nth a.arcs i) then (5, i) else (0, 0)
def arcsFault (a : Abs) : Int × Int :=
  match firstBad a.arcs.length (fun i => decide (arcFault a i = (0, 0))) with
  | some i => arcFault a i
  | none => (0, 0)
def absFault (a : Abs) : Int × Int :=
  if ¬ headOk a then (3, -1) else if ¬ SetP a.states a.goals then (5, -2) else if 400 < a.arcs.length then (2, -3) else arcsFault a
theorem arcFault_3 {a : Abs} {i : Nat} (h : ¬ arcIn a (nth a.arcs i)) : arcFault a i = (3, (i : Int)) := by unfold arcFault; rw [if_pos h]
theorem arcFault_5 {a : Abs} {i : Nat} (h : arcIn a (nth a.arcs i)) (h' : 0 < i ∧ ¬ arcLt (nth a.arcs (i - 1 : Int)) (nth a.arcs i)) : arcFault a i = (5, (i : Int)) := by unfold arcFault; rw [if_neg (fun hn => hn h), if_pos h']
theorem arcFault_0 {a : Abs} {i : Nat} (h : arcIn a (nth a.arcs i)) (h' : ¬ (0 < i ∧ ¬ arcLt (nth a.arcs (i - 1 : Int)) (nth a.arcs i))) : arcFault a i = (0, 0) := by unfold arcFault; rw [if_neg (fun hn => hn h), if_neg h']
section
variable {a : Abs}
theorem absFault_1 (h : ¬ headOk a) : (3, -1) = absFault a := by unfold absFault; rw [if_pos h]
theorem absFault_2 (h : headOk a) (h2 : ¬ SetP a.states a.goals) : (5, -2) = absFault a := by unfold absFault; rw [if_neg (fun hn => hn h), if_pos h2]
theorem absFault_3 (h : headOk a) (h2 : SetP a.states a.goals) (h3 : 400 < a.arcs.length) : (2, -3) = absFault a := by unfold absFault; rw [if_neg (fun hn => hn h), if_neg (fun hn => hn h2), if_pos h3]
theorem absFault_4 (h : headOk a) (h2 : SetP a.states a.goals) (h3 : ¬ 400 < a.arcs.length) : absFault a = arcsFault a := by unfold absFault; rw [if_neg (fun hn => hn h), if_neg (fun hn => hn h2), if_neg h3]
theorem absFault_5 (h : headOk a) (h2 : SetP a.states a.goals) (h3 : ¬ 400 < a.arcs.length) {k : Nat} (hk : k < a.arcs.length) (hl : ∀ j : Nat, j < k → arcFault a j = (0, 0)) {c : Int} (hc : arcFault a k = (c, (k : Int))) (hc0 : c ≠ 0) : (c, (k : Int)) = absFault a := by
  rw [absFault_4 h h2 h3]
  unfold arcsFault
  rw [firstBad_some hk (fun j hj => by simp [hl j hj]) (by rw [hc]; simp [hc0])]
  exact hc.symm
theorem absFault_0 (h : headOk a) (h2 : SetP a.states a.goals) (h3 : ¬ 400 < a.arcs.length) (hl : ∀ j : Nat, j < a.arcs.length → arcFault a j = (0, 0)) : (0, 0) = absFault a := by
  rw [absFault_4 h h2 h3]
  unfold arcsFault
  rw [firstBad_none (fun j hj => by simp [hl j hj])]
/-- What a valid abstraction gives. -/
structure AbsOk (a : Abs) : Prop where
  head : headOk a
  goals : SetP a.states a.goals
  len : a.arcs.length ≤ 400
  arc : ∀ i : Nat, i < a.arcs.length → arcIn a (nth a.arcs i)
  ord : ∀ i : Nat, 0 < i → i < a.arcs.length → arcLt (nth a.arcs (i - 1 : Int)) (nth a.arcs i)
theorem arcFault_ok {i : Nat} (h : arcFault a i = (0, 0)) : arcIn a (nth a.arcs i) ∧ (0 < i → arcLt (nth a.arcs (i - 1 : Int)) (nth a.arcs i)) := by
  unfold arcFault at h
  split at h
  · cases h
  · rename_i h1
    split at h
    · cases h
    · rename_i h2; exact ⟨Decidable.not_not.1 h1, fun hi => Decidable.not_not.1 fun hn => h2 ⟨hi, hn⟩⟩
theorem arcFault_cases {i : Nat} : arcFault a i = (0, 0) ∨ (arcFault a i).1 ≠ 0 := by
  unfold arcFault
  split
  · right; exact fun h => by cases h
  · split
    · right; exact fun h => by cases h
    · left; rfl
theorem absFault_ok (h : (absFault a).1 = 0) : AbsOk a ∧ absFault a = (0, 0) := by
  by_cases h1 : headOk a
  · by_cases h2 : SetP a.states a.goals
    · by_cases h3 : 400 < a.arcs.length
      · rw [← absFault_3 h1 h2 h3] at h; cases h
      · rw [absFault_4 h1 h2 h3] at h ⊢
        have hall : ∀ j : Nat, j < a.arcs.length → arcFault a j = (0, 0) := by
          refine Classical.byContradiction fun hc => ?_
          unfold arcsFault at h
          cases hf : firstBad a.arcs.length (fun i => decide (arcFault a i = (0, 0))) with
          | none =>
            unfold firstBad at hf
            rw [List.find?_eq_none] at hf
            exact hc fun j hj => by
              have := hf j (List.mem_range.2 hj)
              simpa using this
          | some i =>
            rw [hf] at h
            unfold firstBad at hf
            have := List.find?_some hf
            rcases arcFault_cases (a := a) (i := i) with h4 | h4
            · simp [h4] at this
            · exact h4 h
        refine ⟨⟨h1, h2, by omega, fun i hi => (arcFault_ok (hall i hi)).1, fun i h0 hi => (arcFault_ok (hall i hi)).2 h0⟩, ?_⟩
        unfold arcsFault
        rw [firstBad_none (fun j hj => by simp [hall j hj])]
    · rw [← absFault_2 h1 h2] at h; cases h
  · rw [← absFault_1 h1] at h; cases h
theorem absFault_of (h : AbsOk a) : absFault a = (0, 0) := (absFault_0 h.head h.goals (by have := h.len; omega) (fun j hj => arcFault_0 (h.arc j hj) (fun hn => hn.2 (h.ord j hn.1 hj)))).symm
end
/-! ### Costs of labels -/
abbrev CostP (c : List Int) : Prop := ∀ i : Nat, i < c.length → 0 ≤ nth c i ∧ nth c i ≤ 1000000
def costCode (c : List Int) (n : Int) : Int := if (c.length : Int) ≠ n then 9 else if ¬ CostP c then 3 else 0
def costFault (c : List Int) (n i : Int) : Int × Int := if costCode c n = 0 then (0, 0) else (costCode c n, i)
theorem costCode_9 {c : List Int} {n : Int} (h : (c.length : Int) ≠ n) : 9 = costCode c n := by unfold costCode; rw [if_pos h]
theorem costCode_3 {c : List Int} {n : Int} (h : (c.length : Int) = n) (h' : ¬ CostP c) : 3 = costCode c n := by unfold costCode; rw [if_neg (fun hn => hn h), if_pos h']
theorem costCode_0 {c : List Int} {n : Int} (h : (c.length : Int) = n) (h' : CostP c) : 0 = costCode c n := by unfold costCode; rw [if_neg (fun hn => hn h), if_neg (fun hn => hn h')]
theorem costCode_ok {c : List Int} {n : Int} (h : costCode c n = 0) : (c.length : Int) = n ∧ CostP c := by
  unfold costCode at h
  split at h
  · cases h
  · rename_i h1
    split at h
    · cases h
    · rename_i h2; exact ⟨Decidable.not_not.1 h1, Decidable.not_not.1 h2⟩
theorem costFault_bad {c : List Int} {n i e : Int} (h : e = costCode c n) (h0 : e ≠ 0) : (e, i) = costFault c n i := by unfold costFault; rw [if_neg (by rw [← h]; exact h0), h]
theorem costFault_ok {c : List Int} {n i : Int} (h : 0 = costCode c n) : (0, 0) = costFault c n i := by unfold costFault; rw [if_pos h.symm]
theorem costFault_ok' {c : List Int} {n i : Int} (h : (costFault c n i).1 = 0) : (c.length : Int) = n ∧ CostP c ∧ costFault c n i = (0, 0) := by
  unfold costFault at h ⊢
  split at h
  · rename_i h1; rw [if_pos h1]; exact ⟨(costCode_ok h1).1, (costCode_ok h1).2, rfl⟩
  · rename_i h1; exact absurd h h1
theorem costs_any {c : List Int} (h : c.any (fun x => decide (x < 0 ∨ 1000000 < x)) = false) : CostP c := fun i hi => by
  rw [← Bool.not_eq_true, any_iff] at h
  refine Decidable.byContradiction fun hc => h ⟨i, hi, ?_⟩
  simp; omega
theorem costs_any' {c : List Int} (h : c.any (fun x => decide (x < 0 ∨ 1000000 < x)) = true) : ¬ CostP c := fun hp => by
  rw [any_iff] at h
  obtain ⟨i, hi, hx⟩ := h
  have := hp i hi
  simp at hx; omega

/-! ### Relaxation of arcs with weights -/
structure Edge where
  fr : Int
  to : Int
  w : Int
instance : Inhabited Edge := ⟨⟨0, 0, 0⟩⟩
def stepE (d : List Int × Bool) (e : Edge) : List Int × Bool :=
  if nth d.1 e.to < 1000000000 ∧ nth d.1 e.to + e.w < nth d.1 e.fr then (setI d.1 e.fr (nth d.1 e.to + e.w), true) else d
def roundTo (E : List Edge) (d : List Int) : Nat → List Int × Bool
  | 0 => (d, false)
  | k + 1 => stepE (roundTo E d k) (nth E k)
def roundE (E : List Edge) (d : List Int) : List Int × Bool := roundTo E d E.length
def itE (E : List Edge) (d : List Int) : Nat → List Int
  | 0 => d
  | j + 1 => (roundE E (itE E d j)).1
open Classical in
noncomputable def fixE (E : List Edge) (d : List Int) : List Int := if h : ∃ j, (roundE E (itE E d j)).2 = false then itE E d (Classical.choose h) else d
abbrev EdgeOk (n : Nat) (E : List Edge) : Prop := ∀ i : Nat, i < E.length → (0 ≤ (nth E i).fr ∧ (nth E i).fr < n) ∧ (0 ≤ (nth E i).to ∧ (nth E i).to < n) ∧ 0 ≤ (nth E i).w
def GoodD (n : Nat) (d : List Int) : Prop := d.length = n ∧ ∀ x : Int, 0 ≤ x → x < n → 0 ≤ nth d x ∧ nth d x ≤ 1000000000
section
variable {n : Nat} {E : List Edge} (hE : EdgeOk n E)
include hE
theorem stepE_keep {q : List Int → Prop} {d : List Int × Bool} {i : Nat} (hi : i < E.length) (hg : GoodD n d.1) (hq : q d.1)
    (hs : nth d.1 (nth E i).to < 1000000000 → nth d.1 (nth E i).to + (nth E i).w < nth d.1 (nth E i).fr → q (setI d.1 (nth E i).fr (nth d.1 (nth E i).to + (nth E i).w))) :
    GoodD n (stepE d (nth E i)).1 ∧ q (stepE d (nth E i)).1 := by
  unfold stepE
  split
  · rename_i hk
    have he := hE i hi
    refine ⟨⟨by rw [setI_len]; exact hg.1, fun x h0 h1 => ?_⟩, hs hk.1 hk.2⟩
    have h2 := hg.2 _ he.2.1.1 he.2.1.2
    have h3 := hg.2 _ he.1.1 he.1.2
    have h4 := hg.2 x h0 h1
    show 0 ≤ nth (setI d.1 _ _) x ∧ _
    rw [nth_setI h0 (by rw [hg.1]; exact h1) he.1.1]
    split <;> omega
  · exact ⟨hg, hq⟩
theorem roundTo_keep {q : List Int → Prop} {d : List Int} (hg : GoodD n d) (hq : q d)
    (hs : ∀ (d : List Int) (i : Nat), i < E.length → GoodD n d → q d → nth d (nth E i).to < 1000000000 → nth d (nth E i).to + (nth E i).w < nth d (nth E i).fr → q (setI d (nth E i).fr (nth d (nth E i).to + (nth E i).w))) :
    ∀ {k : Nat}, k ≤ E.length → GoodD n (roundTo E d k).1 ∧ q (roundTo E d k).1
  | 0, _ => ⟨hg, hq⟩
  | k + 1, hk => by
    obtain ⟨h1, h2⟩ := roundTo_keep hg hq hs (k := k) (by omega)
    exact stepE_keep hE (by omega) h1 h2 (fun a b => hs _ k (by omega) h1 h2 a b)
theorem itE_keep {q : List Int → Prop} {d : List Int} (hg : GoodD n d) (hq : q d)
    (hs : ∀ (d : List Int) (i : Nat), i < E.length → GoodD n d → q d → nth d (nth E i).to < 1000000000 → nth d (nth E i).to + (nth E i).w < nth d (nth E i).fr → q (setI d (nth E i).fr (nth d (nth E i).to + (nth E i).w))) :
    ∀ j : Nat, GoodD n (itE E d j) ∧ q (itE E d j)
  | 0 => ⟨hg, hq⟩
  | j + 1 => by
    obtain ⟨h1, h2⟩ := itE_keep hg hq hs j
    exact roundTo_keep hE h1 h2 hs (Nat.le_refl _)
theorem itE_good {d : List Int} (hg : GoodD n d) (j : Nat) : GoodD n (itE E d j) := (itE_keep hE (q := fun _ => True) hg trivial (fun _ _ _ _ _ _ _ => trivial) j).1
theorem roundTo_good {d : List Int} (hg : GoodD n d) {k : Nat} (hk : k ≤ E.length) : GoodD n (roundTo E d k).1 := (roundTo_keep hE (q := fun _ => True) hg trivial (fun _ _ _ _ _ _ _ => trivial) hk).1
theorem stepE_down {d0 : List Int} {d : List Int × Bool} {i : Nat} (hi : i < E.length) (hg : GoodD n d.1) (hd : Down d0 d) : Down d0 (stepE d (nth E i)) := by
  unfold stepE
  split
  · rename_i hk
    right
    refine ⟨rfl, ?_⟩
    have he := hE i hi
    have hlt : (nth E i).fr.toNat < d.1.length := by rw [hg.1]; omega
    have h1 : (setI d.1 (nth E i).fr (nth d.1 (nth E i).to + (nth E i).w)).sum < d.1.sum := by
      have h2 := hk.2
      have e : nth d.1 (nth E i).fr = nth d.1 ((nth E i).fr.toNat : Int) := by rw [Int.toNat_of_nonneg he.1.1]
      rw [e, nth_eq hlt] at h2
      simp only [setI]
      rw [sum_set hlt]
      omega
    rcases hd with ⟨_, e⟩ | ⟨_, e⟩
    · rw [← e]; exact h1
    · exact Int.lt_trans h1 e
  · exact hd
theorem roundTo_down {d : List Int} (hg : GoodD n d) : ∀ {k : Nat}, k ≤ E.length → Down d (roundTo E d k)
  | 0, _ => .inl ⟨rfl, rfl⟩
  | k + 1, hk => stepE_down hE (by omega) (roundTo_good hE hg (by omega)) (roundTo_down hg (k := k) (by omega))
omit hE in
theorem sum_goodD {d : List Int} (hg : GoodD n d) : 0 ≤ d.sum := sum_nn fun x hx => by
  obtain ⟨i, hi, rfl⟩ := List.getElem_of_mem hx
  have := (hg.2 i (by omega) (by rw [← hg.1]; omega)).1
  rwa [nth_eq hi] at this
theorem itE_next {d : List Int} (hg : GoodD n d) (j : Nat) : ((roundE E (itE E d j)).2 = false ∧ itE E d (j + 1) = itE E d j) ∨ ((roundE E (itE E d j)).2 = true ∧ (itE E d (j + 1)).sum < (itE E d j).sum) := roundTo_down hE (itE_good hE hg j) (Nat.le_refl _)
omit hE in
theorem itE_stay {d : List Int} {j : Nat} (he : itE E d (j + 1) = itE E d j) : ∀ i, itE E d (j + i) = itE E d j
  | 0 => rfl
  | i + 1 => by
    have ih := itE_stay he i
    show (roundE E (itE E d (j + i))).1 = _
    rw [ih]; exact he
theorem itE_uniq {d : List Int} (hg : GoodD n d) {i j : Nat} (hi : (roundE E (itE E d i)).2 = false) (hj : (roundE E (itE E d j)).2 = false) : itE E d i = itE E d j := by
  have ei : itE E d (i + 1) = itE E d i := by rcases itE_next hE hg i with h | h; exact h.2; rw [h.1] at hi; cases hi
  have ej : itE E d (j + 1) = itE E d j := by rcases itE_next hE hg j with h | h; exact h.2; rw [h.1] at hj; cases hj
  rcases Nat.le_total i j with h | h
  · obtain ⟨k, rfl⟩ := Nat.exists_eq_add_of_le h; exact (itE_stay ei k).symm
  · obtain ⟨k, rfl⟩ := Nat.exists_eq_add_of_le h; exact itE_stay ej k
theorem fixE_of {d : List Int} (hg : GoodD n d) {j : Nat} (hj : (roundE E (itE E d j)).2 = false) : itE E d j = fixE E d := by
  unfold fixE
  rw [dif_pos ⟨j, hj⟩]
  exact itE_uniq hE hg hj (Classical.choose_spec (⟨j, hj⟩ : ∃ j, (roundE E (itE E d j)).2 = false))
theorem fixE_stay {d : List Int} (hg : GoodD n d) {j : Nat} (hj : (roundE E (itE E d j)).2 = false) : itE E d (j + 1) = fixE E d := by
  rw [← fixE_of hE hg hj]
  rcases itE_next hE hg j with h | h
  · exact h.2
  · rw [h.1] at hj; cases hj
theorem fixE_ex {d : List Int} (hg : GoodD n d) : ∃ j, (roundE E (itE E d j)).2 = false := by
  refine Classical.byContradiction fun hc => ?_
  have hall : ∀ j, (roundE E (itE E d j)).2 = true := fun j => by
    cases h : (roundE E (itE E d j)).2 with
    | true => rfl
    | false => exact (hc ⟨j, h⟩).elim
  have hdown : ∀ j : Nat, (itE E d j).sum + j ≤ d.sum := fun j => by
    induction j with
    | zero => simp [itE]
    | succ j ih =>
      rcases itE_next hE hg j with ⟨a, _⟩ | ⟨_, b⟩
      · rw [hall j] at a; cases a
      · omega
  have h1 := hdown (d.sum.toNat + 1)
  have h2 := sum_goodD (itE_good hE hg (d.sum.toNat + 1))
  omega
theorem fixE_good {d : List Int} (hg : GoodD n d) : GoodD n (fixE E d) := by
  obtain ⟨j, hj⟩ := fixE_ex hE hg
  rw [← fixE_of hE hg hj]
  exact itE_good hE hg j
/-- What is consistent and below the start is below the end. -/
theorem fixE_ge {d : List Int} (hg : GoodD n d) {f : Int → Int} (h0 : ∀ x : Int, 0 ≤ x → x < n → f x ≤ nth d x) (h1 : ∀ i : Nat, i < E.length → f (nth E i).fr ≤ f (nth E i).to + (nth E i).w) {x : Int} (hx0 : 0 ≤ x) (hx1 : x < n) : f x ≤ nth (fixE E d) x := by
  obtain ⟨j, hj⟩ := fixE_ex hE hg
  rw [← fixE_of hE hg hj]
  refine (itE_keep hE (q := fun d => ∀ x : Int, 0 ≤ x → x < n → f x ≤ nth d x) hg h0 (fun d i hi hg hq _ _ x h0 h2 => ?_) j).2 x hx0 hx1
  have he := hE i hi
  rw [nth_setI h0 (by rw [hg.1]; exact h2) he.1.1]
  split
  · rename_i e
    subst e
    have := hq _ he.2.1.1 he.2.1.2
    have := h1 i hi
    omega
  · exact hq x h0 h2
theorem fixE_le {d : List Int} (hg : GoodD n d) {x : Int} (hx0 : 0 ≤ x) (hx1 : x < n) : nth (fixE E d) x ≤ nth d x := by
  obtain ⟨j, hj⟩ := fixE_ex hE hg
  rw [← fixE_of hE hg hj]
  refine (itE_keep hE (q := fun d' => ∀ x : Int, 0 ≤ x → x < n → nth d' x ≤ nth d x) hg (fun _ _ _ => Int.le_refl _) (fun d' i hi hg' hq _ hlt x h0 h2 => ?_) j).2 x hx0 hx1
  have he := hE i hi
  rw [nth_setI h0 (by rw [hg'.1]; exact h2) he.1.1]
  split
  · rename_i e
    subst e
    have := hq _ h0 h2
    omega
  · exact hq x h0 h2
omit hE in
theorem stepE_true {d : List Int × Bool} {e : Edge} (h : d.2 = true) : (stepE d e).2 = true := by
  unfold stepE; split
  · rfl
  · exact h
omit hE in
theorem roundTo_flag {d : List Int} : ∀ {k : Nat}, (roundTo E d k).2 = false → roundTo E d k = (d, false) ∧ ∀ i : Nat, i < k → ¬ (nth d (nth E i).to < 1000000000 ∧ nth d (nth E i).to + (nth E i).w < nth d (nth E i).fr)
  | 0, h => ⟨rfl, fun i hi => by omega⟩
  | k + 1, h => by
    have h1 : (roundTo E d k).2 = false := by
      cases hf : (roundTo E d k).2 with
      | false => rfl
      | true => have := stepE_true (e := nth E k) hf; have h' : (stepE (roundTo E d k) (nth E k)).2 = false := h; rw [this] at h'; cases h'
    obtain ⟨a, b⟩ := roundTo_flag h1
    have h2 : (stepE (roundTo E d k) (nth E k)).2 = false := h
    have h3 : ¬ (nth d (nth E k).to < 1000000000 ∧ nth d (nth E k).to + (nth E k).w < nth d (nth E k).fr) := fun hc => by
      rw [a] at h2
      unfold stepE at h2
      rw [if_pos hc] at h2
      cases h2
    refine ⟨?_, fun i hi => ?_⟩
    · show stepE (roundTo E d k) (nth E k) = (d, false)
      rw [a]; unfold stepE; rw [if_neg h3]
    · by_cases hik : i = k
      · subst hik; exact h3
      · exact b i (by omega)
theorem fixE_tri {d : List Int} (hg : GoodD n d) {i : Nat} (hi : i < E.length) : nth (fixE E d) (nth E i).fr ≤ nth (fixE E d) (nth E i).to + (nth E i).w := by
  obtain ⟨j, hj⟩ := fixE_ex hE hg
  have hf := fixE_of hE hg hj
  obtain ⟨_, h2⟩ := roundTo_flag (E := E) hj
  have h3 := h2 i hi
  have he := hE i hi
  have hg2 := fixE_good hE hg
  rw [hf] at h3
  have h4 := hg2.2 _ he.1.1 he.1.2
  have h5 := hg2.2 _ he.2.1.1 he.2.1.2
  omega
/-- Is another round due? -/
def flagE (E : List Edge) (d : List Int) : Nat → Bool
  | 0 => true
  | j + 1 => (roundE E (itE E d j)).2
theorem flagE_lt {d : List Int} (hg : GoodD n d) {j : Nat} (h : flagE E d j = true) : (itE E d (j + 1)).sum.toNat + (if flagE E d (j + 1) = true then 1 else 0) < (itE E d j).sum.toNat + (if flagE E d j = true then 1 else 0) := by
  have h1 := sum_goodD (itE_good hE hg (j + 1))
  have h2 := sum_goodD (itE_good hE hg j)
  rw [if_pos h]
  show _ + (if (roundE E (itE E d j)).2 = true then 1 else 0) < _
  rcases itE_next hE hg j with ⟨a, b⟩ | ⟨a, b⟩
  · rw [a, b]; simp
  · rw [a]; simp; omega
theorem flagE_end {d : List Int} (hg : GoodD n d) {j : Nat} (h : flagE E d j = false) : itE E d j = fixE E d := by
  cases j with
  | zero => cases h
  | succ j => exact fixE_stay hE hg h
end
theorem stepE_1 {d : List Int × Bool} {e : Edge} (h1 : nth d.1 e.to < 1000000000) (h2 : nth d.1 e.to + e.w < nth d.1 e.fr) : stepE d e = (setI d.1 e.fr (nth d.1 e.to + e.w), true) := by unfold stepE; rw [if_pos ⟨h1, h2⟩]
theorem stepE_2 {d : List Int × Bool} {e : Edge} (h : ¬ (nth d.1 e.to < 1000000000 ∧ nth d.1 e.to + e.w < nth d.1 e.fr)) : stepE d e = d := by unfold stepE; rw [if_neg h]
end Go.Eng
end

section
/- Abstractions: the distances of all states, found in two ways. -/


set_option linter.unusedVariables false
set_option linter.unusedSimpArgs false
set_option linter.unusedSectionVars false
namespace Go.Eng
open Go

def nS (a : Abs) : Nat := a.states.toNat
def edgesOf (a : Abs) (c : List Int) : List Edge := a.arcs.map fun r => ⟨r.fr, r.to, nth c r.lab⟩
theorem edgesOf_len {a : Abs} {c : List Int} : (edgesOf a c).length = a.arcs.length := by simp [edgesOf]
theorem edgesOf_at {a : Abs} {c : List Int} {i : Nat} (hi : i < a.arcs.length) : nth (edgesOf a c) i = ⟨(nth a.arcs i).fr, (nth a.arcs i).to, nth c (nth a.arcs i).lab⟩ := by
  rw [nth_eq (by rw [edgesOf_len]; exact hi)]
  simp only [edgesOf, List.getElem_map]
  rw [nth_eq hi]
/-- The costs of all labels are there and in range. -/
abbrev CostFor (a : Abs) (c : List Int) : Prop := (c.length : Int) = a.labels ∧ ∀ i : Nat, i < c.length → 0 ≤ nth c i ∧ nth c i ≤ 1000000
theorem cost_at {a : Abs} {c : List Int} (hc : CostFor a c) {x : Int} (h0 : 0 ≤ x) (h1 : x < a.labels) : 0 ≤ nth c x ∧ nth c x ≤ 1000000 := by
  have := hc.2 x.toNat (by have := hc.1; omega)
  rwa [Int.toNat_of_nonneg h0] at this
theorem nS_eq {a : Abs} (ha : AbsOk a) : (nS a : Int) = a.states ∧ 1 ≤ nS a ∧ nS a ≤ 60 := by
  have := ha.head.1
  unfold nS
  omega
theorem edgesOk {a : Abs} {c : List Int} (ha : AbsOk a) (hc : CostFor a c) : EdgeOk (nS a) (edgesOf a c) := fun i hi => by
  rw [edgesOf_len] at hi
  rw [edgesOf_at hi]
  have h1 := ha.arc i hi
  have h2 := nS_eq ha
  rw [h2.1]
  exact ⟨h1.1, h1.2.2, (cost_at hc h1.2.1.1 h1.2.1.2).1⟩
def initG (a : Abs) : List Int := (List.range (nS a)).map fun (x : Nat) => if (x : Int) ∈ a.goals then 0 else 1000000000
theorem initG_len {a : Abs} : (initG a).length = nS a := by simp [initG]
theorem initG_at {a : Abs} {x : Int} (h0 : 0 ≤ x) (h1 : x < nS a) : nth (initG a) x = if x ∈ a.goals then 0 else 1000000000 := by
  have e : nth (initG a) x = nth (initG a) (x.toNat : Int) := by rw [Int.toNat_of_nonneg h0]
  rw [e, nth_eq (by rw [initG_len]; omega)]
  simp only [initG, List.getElem_map, List.getElem_range, Int.toNat_of_nonneg h0]
theorem initG_good {a : Abs} : GoodD (nS a) (initG a) := ⟨initG_len, fun x h0 h1 => by rw [initG_at h0 h1]; split <;> omega⟩
/-- The distances to the goals. -/
noncomputable def distL (a : Abs) (c : List Int) : List Int := fixE (edgesOf a c) (initG a)

/-! ### The goals, one by one -/
def goalSet (a : Abs) : Nat → List Int
  | 0 => List.replicate (nS a) 1000000000
  | k + 1 => setI (goalSet a k) (nth a.goals k) 0
theorem goalSet_len {a : Abs} : ∀ {k : Nat}, (goalSet a k).length = nS a
  | 0 => by simp [goalSet]
  | k + 1 => by simp only [goalSet, setI_len]; exact goalSet_len
theorem goalSet_at {a : Abs} (hg : SetP a.states a.goals) {x : Int} (h0 : 0 ≤ x) (h1 : x < nS a) : ∀ {k : Nat}, k ≤ a.goals.length → nth (goalSet a k) x = if ∃ i : Nat, i < k ∧ nth a.goals i = x then 0 else 1000000000
  | 0, _ => by
    have e : nth (goalSet a 0) x = nth (goalSet a 0) (x.toNat : Int) := by rw [Int.toNat_of_nonneg h0]
    rw [e, nth_eq (by rw [goalSet_len]; omega)]
    simp [goalSet]
  | k + 1, hk => by
    have ih := goalSet_at hg h0 h1 (k := k) (by omega)
    have hk' := hg k (by omega)
    simp only [goalSet]
    rw [nth_setI h0 (by rw [goalSet_len]; exact h1) hk'.1, ih]
    by_cases hx : x = nth a.goals k
    · rw [if_pos hx, if_pos ⟨k, by omega, hx.symm⟩]
    · rw [if_neg hx]
      by_cases he : ∃ i : Nat, i < k ∧ nth a.goals i = x
      · obtain ⟨i, h2, h3⟩ := he
        rw [if_pos ⟨i, h2, h3⟩, if_pos ⟨i, by omega, h3⟩]
      · rw [if_neg he, if_neg (fun ⟨i, h2, h3⟩ => by
          by_cases hik : i = k
          · subst hik; exact hx h3.symm
          · exact he ⟨i, by omega, h3⟩)]
theorem mem_nth {l : List Int} {x : Int} : x ∈ l ↔ ∃ i : Nat, i < l.length ∧ nth l i = x := by
  constructor
  · intro h
    obtain ⟨i, hi, rfl⟩ := List.getElem_of_mem h
    exact ⟨i, hi, nth_eq hi⟩
  · rintro ⟨i, hi, rfl⟩
    exact nth_mem (by omega) (by omega)
theorem goalSet_end {a : Abs} (hg : SetP a.states a.goals) : goalSet a a.goals.length = initG a := ext_get (by rw [goalSet_len, initG_len]) fun i hi => by
  rw [goalSet_len] at hi
  rw [goalSet_at hg (by omega) (by omega) (Nat.le_refl _), initG_at (by omega) (by omega)]
  by_cases h : (i : Int) ∈ a.goals
  · rw [if_pos h, if_pos (mem_nth.1 h)]
  · rw [if_neg h, if_neg (fun hn => h (mem_nth.2 hn))]

/-! ### The nearest state is settled first -/
def fillD (a : Abs) (k : Nat) : List Int := (List.range (nS a)).map fun (x : Nat) => if x < k then (if (x : Int) ∈ a.goals then 0 else 1000000000) else 0
def bestD (d : List Int) (s : List Bool) : Nat → Int
  | 0 => -1
  | k + 1 => if nth s k = false ∧ nth d k < 1000000000 ∧ (bestD d s k < 0 ∨ nth d k < nth d (bestD d s k)) then k else bestD d s k
def relaxTo (a : Abs) (c : List Int) (b : Int) (d : List Int) : Nat → List Int
  | 0 => d
  | i + 1 => if (nth a.arcs i).to = b then setI (relaxTo a c b d i) (nth a.arcs i).fr (min (nth (relaxTo a c b d i) (nth a.arcs i).fr) (nth (relaxTo a c b d i) b + nth c (nth a.arcs i).lab)) else relaxTo a c b d i
section
variable {a : Abs} {c : List Int} (ha : AbsOk a) (hc : CostFor a c)
include ha hc
end
/-- Between two rounds. -/
structure DInv (a : Abs) (c : List Int) (d : List Int) (s : List Bool) : Prop where
  good : GoodD (nS a) d
  sl : s.length = nS a
  le0 : ∀ x : Int, 0 ≤ x → x < nS a → nth d x ≤ nth (initG a) x
  ge : ∀ x : Int, 0 ≤ x → x < nS a → nth (distL a c) x ≤ nth d x
  ord : ∀ x y : Int, 0 ≤ x → x < nS a → 0 ≤ y → y < nS a → nth s x = true → nth s y = false → nth d x ≤ nth d y
  rel : ∀ i : Nat, i < a.arcs.length → nth s (nth a.arcs i).to = true → nth d (nth a.arcs i).fr ≤ nth d (nth a.arcs i).to + nth c (nth a.arcs i).lab
def openN (s : List Bool) : Nat := (s.filter fun b => !b).length
def repTo (c : Int) (n k : Nat) : List Int := List.replicate k c ++ List.replicate (n - k) 0
theorem repTo_len {c : Int} {n k : Nat} (h : k ≤ n) : (repTo c n k).length = n := by simp [repTo]; omega
theorem repTo_end {c : Int} {n : Nat} : repTo c n n = List.replicate n c := by simp [repTo]
theorem repTo_s {c : Int} {n k m : Nat} (h : k + m ≤ n) (hm : m ≤ k) : (repTo c n k).take k ++ (repTo c n k).take m ++ (repTo c n k).drop (k + m) = repTo c n (k + m) := by
  unfold repTo
  have e1 : (List.replicate k c ++ List.replicate (n - k) (0 : Int)).take k = List.replicate k c := by simp
  have e2 : (List.replicate k c ++ List.replicate (n - k) (0 : Int)).take m = List.replicate m c := by
    rw [List.take_append_of_le_length (by simpa using hm)]
    simp [Nat.min_eq_left hm]
  have e3 : (List.replicate k c ++ List.replicate (n - k) (0 : Int)).drop (k + m) = List.replicate (n - (k + m)) 0 := by
    rw [List.drop_append]
    simp
    omega
  rw [e1, e2, e3, List.replicate_append_replicate]
theorem wrap_pred {n : Int} (hr : -9223372036854775808 ≤ n ∧ n ≤ 9223372036854775807) : 0 ≤ IntKind.i64.wrap (n - 1) ∧ IntKind.i64.wrap (n - 1) < 60 ↔ 1 ≤ n ∧ n ≤ 60 := by
  by_cases h : -9223372036854775808 ≤ n - 1
  · rw [wrap_i64 h (by omega)]; omega
  · have : n = -9223372036854775808 := by omega
    subst this
    have e : IntKind.i64.wrap (-9223372036854775808 - 1) = 9223372036854775807 := by decide
    rw [e]; omega
theorem Le.uu {b c : Int} (h : b = c) : Le (U b) (U c) := h ▸ .refl _
section
variable {a : Abs} {c : List Int} (ha : AbsOk a) (hc : CostFor a c)
include ha hc
end
end Go.Eng
end

section
/- The abstraction of one variable: what is computed. -/

set_option linter.unusedVariables false
set_option linter.unusedSimpArgs false
set_option linter.unusedSectionVars false
namespace Go.Eng
open Go
/-- The value that a list assigns to a variable, or another one. -/
def findA (l : List Asg) (v other : Int) : Int := ((l.find? fun x => decide (x.1 = v)).map (·.2)).getD other
def goalsTo (m : Multi) (v : Int) : Nat → List Int
  | 0 => []
  | k + 1 => if findA m.goal v k = k then goalsTo m v k ++ [(k : Int)] else goalsTo m v k
def arcsIn (m : Multi) (v x : Int) : Nat → List Arc
  | 0 => []
  | j + 1 => if findA (nth m.ops j).pre v x = x then arcsIn m v x j ++ [⟨x, j, findA (nth m.ops j).post v x⟩] else arcsIn m v x j
def arcsTo (m : Multi) (v : Int) : Nat → List Arc
  | 0 => []
  | k + 1 => arcsTo m v k ++ arcsIn m v k m.ops.length
def atomA (m : Multi) (v : Int) : Abs := ⟨nth m.sizes v, m.ops.length, arcsTo m v (nth m.sizes v).toNat, nth m.init v, goalsTo m v (nth m.sizes v).toNat⟩
def atomF (m : Multi) (v : Int) : Int × Int := if validate m = (0, 0) then (if v < 0 ∨ m.sizes.length ≤ v then (3, -8) else (0, 0)) else validate m
def absZ : Abs := ⟨0, 0, [], 0, []⟩
def atomR (m : Multi) (v : Int) : Abs := if atomF m v = (0, 0) then atomA m v else absZ
/-! ### Distances of an abstraction, with their fault -/
def adF (a : Abs) (c : List Int) : Int × Int := if absFault a = (0, 0) then costFault c a.labels (-4) else absFault a
noncomputable def adR (a : Abs) (c : List Int) : List Int := if adF a c = (0, 0) then distL a c else []
theorem adF_1 {a : Abs} {c : List Int} (h : absFault a = (0, 0)) : costFault c a.labels (-4) = adF a c := by unfold adF; rw [if_pos h]
theorem adF_2 {a : Abs} {c : List Int} (h : absFault a ≠ (0, 0)) : absFault a = adF a c := by unfold adF; rw [if_neg h]
theorem adR_1 {a : Abs} {c : List Int} (h : adF a c ≠ (0, 0)) : adR a c = [] := by unfold adR; rw [if_neg h]
theorem adR_0 {a : Abs} {c : List Int} (h : adF a c = (0, 0)) : adR a c = distL a c := by unfold adR; rw [if_pos h]
theorem adF_ok {a : Abs} {c : List Int} (h : (adF a c).1 = 0) : AbsOk a ∧ CostFor a c ∧ adF a c = (0, 0) ∧ absFault a = (0, 0) := by
  unfold adF at h ⊢
  split at h
  · rename_i h1
    rw [if_pos h1]
    obtain ⟨c1, c2, c3⟩ := costFault_ok' h
    exact ⟨(absFault_ok (by rw [h1])).1, ⟨c1, c2⟩, c3, h1⟩
  · rename_i h1
    exact absurd (absFault_ok h).2 h1
open Classical in
noncomputable def tightTo (a : Abs) (c : List Int) (x : Int) (i : Nat) : Bool := decide (∃ j : Nat, j < i ∧ (nth a.arcs j).fr = x ∧ nth (distL a c) (nth a.arcs j).to < 1000000000 ∧ nth (distL a c) x = nth (distL a c) (nth a.arcs j).to + nth c (nth a.arcs j).lab)
end Go.Eng
end
