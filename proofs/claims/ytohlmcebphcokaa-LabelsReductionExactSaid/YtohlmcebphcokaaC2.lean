/- The engine and the walks that this claim uses, part 2. Written by prune.py out of our own texts. -/
import Derived.Test.YtohlmcebphcokaaC1
import Derived.Laws.CopyRow
import Derived.IntWalk
import Derived.ChangeKeysEq
import Derived.Test.YtohlmcebphcokaaProg
import Derived.KernelRfl
section
/- The engine, part 15: windows of a slice of the call's own, copy; other kinds of numbers. -/



set_option linter.unusedSimpArgs false
set_option linter.unnecessarySimpa false
set_option linter.unusedVariables false
namespace Go.Eng
open Go.RowKit (Below)

section
variable {P : Program} {B : Nat} {o : Oper} {e : Env} {M : Mem} {s : S}
/-- The value of a slice of the call's own that is not empty. -/
theorem MHold.ownSome {O : Nat → Nat} {H : Nat → Value} {w : World} {h k T : Nat} {rows : List (List D)} (hm : MHold O H B w h (.own k T rows)) (hr : 0 < rows.length) :
    ∃ (b cap : Nat) (xs : Array Value), H h = .slice (some ⟨b, 0, none⟩) rows.length cap ∧ B ≤ b ∧ O b = h + 1 ∧
      w.heap[b]? = some (.cells xs T (0, 0)) ∧ rows.length ≤ cap ∧ cap ≤ maxLen ∧ xs.size = cap * k ∧ (∀ r, r ∈ rows → r.length = k) ∧
      ∀ (i : Nat) (r : List D) (j : Nat) (d : D), rows[i]? = some r → r[j]? = some d → ∃ x, xs[i * k + j]? = some x ∧ RepD O w x d ∧ x.oneCell' = true := by
  rcases hm with ⟨_, h1⟩ | h1
  · rw [h1] at hr; simp at hr
  · exact h1
/-- x[lo:], x of the call's own. -/
theorem OpSem.sliceoL {t k T h : Nat} {x l : Operand} {rows : List (List D)} {kk : IntKind} {n : Int} (ho : o.op = .slice t x (some l) none none) (hx : opS e x = some (.o h)) (hM : look M h = some (.own k T rows)) (hl : opS e l = some (.d (.v (.int kk n))))
    (ht : esz P t = some k) (h0 : 0 ≤ n) (h1 : n < rows.length) : OpSem P B o e M (.w h k n.toNat (rows.length - n.toNat)) none :=
  .value fun O H a w hs hms => by
    have hx' := hs x (by simp [ho, Op.operands]) _ hx
    have hl' := hs l (by simp [ho, Op.operands]) _ hl
    obtain ⟨b, cap, xs, g1, g2, g3, g4, g5, g6, g7, g8, g9⟩ := (hms h _ hM).ownSome (by omega)
    generalize hv : a.eval x = v at hx'
    generalize hu : a.eval l = u at hl'
    cases hl' with
    | d _ _ hl' => cases hl' with
      | v _ => cases hx' with
        | o h h1' =>
          rw [g1] at hv
          refine ⟨_, ?_, .w h b k n.toNat (rows.length - n.toNat) rows.length cap g1 (by omega)⟩
          have := run_slice_l (P := P) w t (some ⟨b, 0, none⟩) rows.length cap (esz_spec ht).1 kk n h0 (by omega)
          simp only [execOp, ho, hv, hu, Option.map_some, Option.map_none, Sem.run_bind, run_sliceAt_slice w t _ _ _ _ (esz_spec ht).1, this, run_sizeElem ht, Result.andThen_ok, Sem.run_pure]
          unfold sliced
          rw [if_neg (by omega)]
          simp [Addr.add_lit]
/-- Cells copied into a slice of the call's own. -/
theorem copy_core {O : Nat → Nat} {H : Nat → Value} {w : World} {t1 t2 ty T h b lo len dcap cap slen scap n : Nat} {xs : Array Value} {rows src : List (List D)} {a : Addr} {cs : List Value}
    (hk : esz P t1 = some 1) (g1 : H h = .slice (some ⟨b, 0, none⟩) rows.length cap) (g2 : B ≤ b) (g3 : O b = h + 1) (g4 : w.heap[b]? = some (.cells xs T (0, 0))) (g5 : rows.length ≤ cap) (g6 : cap ≤ maxLen) (g7 : xs.size = cap * 1)
    (g8 : ∀ r, r ∈ rows → r.length = 1) (g9 : ∀ (i : Nat) (r : List D) (j : Nat) (d : D), rows[i]? = some r → r[j]? = some d → ∃ x, xs[i * 1 + j]? = some x ∧ RepD O w x d ∧ x.oneCell' = true)
    (hn : n = Nat.min slen len) (hcs : cs.length = n) (hsrcl : src.length = n) (hlen : lo + len ≤ rows.length) (hsrc : ∀ j v, cs[j]? = some v → w.cell? (a.add j) = some v)
    (hs1 : ∀ r, r ∈ src → r.length = 1) (hs2 : ∀ (i : Nat) (r : List D) (d : D), src[i]? = some r → r[0]? = some d → ∃ x, cs[i]? = some x ∧ RepD O w x d ∧ x.oneCell' = true) (hone : ∀ v, v ∈ cs → v.oneCell' = true) :
    ∃ w', (Builtin.copy_ #[t1, t2] ty #[.slice (some ⟨b, lo, none⟩) len dcap, .slice (some a) slen scap]).run P w = .ok (goInt n) w' ∧ Keep (some h) none O H w O H w' ∧ Below B w w' ∧ MHold O H B w' h (.own 1 T (rows.take lo ++ src ++ rows.drop (lo + n))) := by
  obtain ⟨e1, i, hi1, hi2⟩ := esz_spec hk
  have hmin : n ≤ len := by rw [hn]; exact Nat.min_le_right _ _
  have hrun := run_copy_row (P := P) w t1 t2 ty (P.elem t1) b lo len dcap a slen scap xs T cs e1 (by rw [hi1]; simp [hi2]) g4 (by rw [hcs, hn]) hsrc (by rw [hcs, g7]; omega) hone
  have hke := Keep.setRow (O := O) (H := H) (w := w) (cs := (xs.toList.take lo ++ cs ++ xs.toList.drop (lo + cs.length)).toArray) g3
  refine ⟨_, by rw [hrun, hcs], hke, (Below.setRow g2).mono (Nat.le_refl _), ?_⟩
  have hl' : (rows.take lo ++ src ++ rows.drop (lo + n)).length = rows.length := by simp; omega
  refine .inr ⟨b, cap, _, by rw [hl']; exact g1, g2, g3, setRow_heap w b xs _ T _ g4, by rw [hl']; exact g5, g6, by simp [hcs]; omega, fun r hr => ?_, fun i r j d hi hj => ?_⟩
  · simp only [List.mem_append] at hr
    rcases hr with (hr | hr) | hr
    · exact g8 r (List.mem_of_mem_take hr)
    · exact hs1 r hr
    · exact g8 r (List.mem_of_mem_drop hr)
  · have hrl : r.length = 1 := by
      have hr := List.mem_of_getElem? hi
      simp only [List.mem_append] at hr
      rcases hr with (hr | hr) | hr
      · exact g8 r (List.mem_of_mem_take hr)
      · exact hs1 r hr
      · exact g8 r (List.mem_of_mem_drop hr)
    have hj0 : j = 0 := by have := (List.getElem?_eq_some_iff.1 hj).1; omega
    subst hj0
    simp only [Nat.mul_one, Nat.add_zero, List.getElem?_toArray]
    by_cases h1 : i < lo
    · rw [List.append_assoc, List.getElem?_append_left (by simp; omega), List.getElem?_take_of_lt h1] at hi
      obtain ⟨x, hx, hr, ho⟩ := g9 i r 0 d hi hj
      refine ⟨x, ?_, hr.mono hke.keeps, ho⟩
      rw [List.append_assoc, List.getElem?_append_left (by simp; omega), List.getElem?_take_of_lt h1]
      simpa using hx
    · by_cases h2 : i < lo + n
      · rw [List.append_assoc, List.getElem?_append_right (by simp; omega), List.getElem?_append_left (by simp; omega)] at hi
        obtain ⟨x, hx, hr, ho⟩ := hs2 _ r d hi hj
        refine ⟨x, ?_, hr.mono hke.keeps, ho⟩
        rw [List.append_assoc, List.getElem?_append_right (by simp; omega), List.getElem?_append_left (by simp; omega)]
        simp only [List.length_take, Array.length_toList] at hx ⊢
        rw [Nat.min_eq_left (by omega)] at hx ⊢
        exact hx
      · rw [List.getElem?_append_right (by simp; omega), List.getElem?_drop] at hi
        have e1 : lo + n + (i - (List.take lo rows ++ src).length) = i := by simp; omega
        rw [e1] at hi
        obtain ⟨x, hx, hr, ho⟩ := g9 i r 0 d hi hj
        refine ⟨x, ?_, hr.mono hke.keeps, ho⟩
        rw [List.getElem?_append_right (by simp; omega), List.getElem?_drop]
        have e2 : lo + cs.length + (i - (List.take lo xs.toList ++ cs).length) = i := by simp; omega
        rw [e2]
        simpa using hx
/-- copy(x, y): data into a slice of the call's own, from its beginning. -/
theorem OpSt.copyO {t1 t2 T h : Nat} {x y : Operand} {rows src : List (List D)} (ho : o.op = .call { callee := .builtin .copy, args := #[x, y], argTypes := #[t1, t2] }) (hx : opS e x = some (.o h)) (hy : opS e y = some (.d (.s 1 src)))
    (hk : esz P t1 = some 1) (hone : ∀ r, r ∈ src → r.all D.one = true) (h1 : 0 < src.length) (h2 : src.length ≤ rows.length) :
    OpSt P B o e h (.own 1 T rows) (.own 1 T (src ++ rows.drop src.length)) (.d (.v (.int .i64 src.length))) := by
  intro O H a w hBw hsl hm K hK
  have hx' := hsl x (by simp [ho, Op.operands, Call.operands]) _ hx
  have hy' := hsl y (by simp [ho, Op.operands, Call.operands]) _ hy
  obtain ⟨b, cap, xs, g1, g2, g3, g4, g5, g6, g7, g8, g9⟩ := hm.ownSome (by omega)
  generalize hv : a.eval x = v at hx'
  generalize hu : a.eval y = u at hy'
  cases hx' with
  | o h h1' =>
    cases hy' with
    | d _ _ hy' =>
      obtain ⟨ad, c, hvv, hc, hcm⟩ := hy'.slice
      cases ad with
      | none => exact absurd (hy'.noneNil hvv) (by intro e; rw [e] at h1; simp at h1)
      | some ad =>
        subst hvv
        obtain ⟨_, vals, ⟨v1, v2, v3⟩, hcell⟩ := hy'.cellsL (by omega)
        have hmin : src.length = Nat.min src.length rows.length := (Nat.min_eq_left h2).symm
        have hval : ∀ (i : Nat) (r : List D) (d : D), src[i]? = some r → r[0]? = some d → ∃ x, vals[i]? = some x ∧ RepD O w x d ∧ x.oneCell' = true := fun i r d hi hd => by
          obtain ⟨x, hx, hr⟩ := v3 i r 0 d hi hd
          refine ⟨x, by simpa using hx, hr, hr.one' ?_⟩
          exact List.all_eq_true.1 (hone r (List.mem_of_getElem? hi)) d (List.mem_of_getElem? hd)
        have hall : ∀ z, z ∈ vals → z.oneCell' = true := fun z hz => by
          obtain ⟨i, hi⟩ := List.getElem?_of_mem hz
          have hlt : i < src.length := by have := (List.getElem?_eq_some_iff.1 hi).1; omega
          have hrl := v2 src[i] (List.getElem_mem hlt)
          obtain ⟨x, hx, _, ho⟩ := hval i src[i] (src[i][0]'(by omega)) (List.getElem?_eq_getElem hlt) (List.getElem?_eq_getElem _)
          rw [hi] at hx; cases hx; exact ho
        obtain ⟨w', hrun, hke, hbe, hmh⟩ := copy_core (P := P) (B := B) (t2 := t2) (ty := o.type) (lo := 0) (dcap := cap) (scap := c) (n := src.length) (cs := vals) (src := src) (slen := src.length) (len := rows.length) (a := ad) hk g1 g2 g3 g4 g5 g6 g7 g8 g9 hmin (by omega) rfl (by omega) hcell v2 hval hall
        have hex : (execOp a.eval o).run P w = .ok (.value (goInt src.length)) w' := by rw [g1] at hv; simp [execOp, ho, resolve, invoke, builtin, hv, hu, hrun]
        unfold Oper.wp
        rw [hex]
        refine hK w' _ hke hbe ?_ (by unfold goInt; exact .d _ _ (.v _))
        simpa using hmh
/-- copy(x, y): one window of a slice of the call's own into another one. -/
theorem OpSt.copyW {t1 t2 T h lo len lo2 len2 : Nat} {x y : Operand} {rows : List (List D)} (ho : o.op = .call { callee := .builtin .copy, args := #[x, y], argTypes := #[t1, t2] }) (hx : opS e x = some (.w h 1 lo len)) (hy : opS e y = some (.w h 1 lo2 len2))
    (hk : esz P t1 = some 1) (h1 : lo + len ≤ rows.length) (h2 : lo2 + len2 ≤ rows.length) (h3 : 0 < rows.length) :
    OpSt P B o e h (.own 1 T rows) (.own 1 T (rows.take lo ++ (rows.drop lo2).take (min len2 len) ++ rows.drop (lo + min len2 len))) (.d (.v (.int .i64 (min len2 len : Nat)))) := by
  intro O H a w hBw hsl hm K hK
  have hx' := hsl x (by simp [ho, Op.operands, Call.operands]) _ hx
  have hy' := hsl y (by simp [ho, Op.operands, Call.operands]) _ hy
  obtain ⟨b, cap, xs, g1, g2, g3, g4, g5, g6, g7, g8, g9⟩ := hm.ownSome h3
  obtain ⟨n, hn⟩ : ∃ n, n = min len2 len := ⟨_, rfl⟩
  have hn1 : n ≤ len2 := by rw [hn]; exact Nat.min_le_left _ _
  generalize hv : a.eval x = v at hx'
  generalize hu : a.eval y = u at hy'
  rw [← hn] at hK
  cases hx' with
  | w h b1 k lo len L C hH hl =>
    cases hy' with
    | w h b2 k lo2 len2 L2 C2 hH2 hl2 =>
      rw [g1] at hH hH2
      simp only [Value.slice.injEq, Option.some.injEq, Addr.mk.injEq, and_true] at hH hH2
      obtain ⟨rfl, rfl, rfl⟩ := hH
      obtain ⟨rfl, _, _⟩ := hH2
      simp only [Nat.mul_one] at hv hu
      have hsz : xs.size = cap := by simpa using g7
      have hval : ∀ (i : Nat) (r : List D) (d : D), ((rows.drop lo2).take n)[i]? = some r → r[0]? = some d → ∃ x, ((xs.toList.drop lo2).take n)[i]? = some x ∧ RepD O w x d ∧ x.oneCell' = true := fun i r d hi hd => by
        have hin : i < n := by have := (List.getElem?_eq_some_iff.1 hi).1; simp at this; omega
        rw [List.getElem?_take_of_lt hin, List.getElem?_drop] at hi
        obtain ⟨x, hx, hr, ho⟩ := g9 (lo2 + i) r 0 d hi hd
        refine ⟨x, ?_, hr, ho⟩
        rw [List.getElem?_take_of_lt hin, List.getElem?_drop]
        simpa using hx
      have hl1 : ((rows.drop lo2).take n).length = n := by simp; omega
      have hl3 : ((xs.toList.drop lo2).take n).length = n := by simp; omega
      have hs1 : ∀ r, r ∈ (rows.drop lo2).take n → r.length = 1 := fun r hr => g8 r (List.mem_of_mem_drop (List.mem_of_mem_take hr))
      have hall : ∀ z, z ∈ (xs.toList.drop lo2).take n → z.oneCell' = true := fun z hz => by
        obtain ⟨i, hi⟩ := List.getElem?_of_mem hz
        have hlt : i < ((rows.drop lo2).take n).length := by rw [hl1, ← hl3]; exact (List.getElem?_eq_some_iff.1 hi).1
        have hrl := hs1 _ (List.getElem_mem hlt)
        obtain ⟨x, hx, _, ho⟩ := hval i _ (((rows.drop lo2).take n)[i][0]'(by omega)) (List.getElem?_eq_getElem hlt) (List.getElem?_eq_getElem _)
        rw [hi] at hx; cases hx; exact ho
      have hsrc : ∀ j v, ((xs.toList.drop lo2).take n)[j]? = some v → w.cell? ((⟨b, lo2, none⟩ : Addr).add j) = some v := fun j v hj => by
        have hin : j < n := by have := (List.getElem?_eq_some_iff.1 hj).1; omega
        rw [List.getElem?_take_of_lt hin, List.getElem?_drop] at hj
        rw [Addr.add_lit]
        exact cellOf g4 (by simpa using hj)
      obtain ⟨w', hrun, hke, hbe, hmh⟩ := copy_core (P := P) (B := B) (t2 := t2) (ty := o.type) (lo := lo) (dcap := cap - lo) (scap := C2 - lo2) (n := n) (cs := (xs.toList.drop lo2).take n) (src := (rows.drop lo2).take n) (slen := len2) (len := len) (a := ⟨b, lo2, none⟩) hk g1 g2 g3 g4 g5 g6 g7 g8 g9 hn hl3 hl1 h1 hsrc hs1 hval hall
      have hex : (execOp a.eval o).run P w = .ok (.value (goInt n)) w' := by simp [execOp, ho, resolve, invoke, builtin, hv, hu, hrun]
      unfold Oper.wp
      rw [hex]
      exact hK w' _ hke hbe hmh (by unfold goInt; exact .d _ _ (.v _))
end
section
variable {P : Program} {N : Nat} {w0 : World} {O0 : Nat → Nat} {ops : Array Oper} {Q : Post} {e e0 : Env} {M M0 : Mem} {hs : List Nat} {rest : List Oper} {o : Oper} {s : S} {id : Nat} {ps : List PO}
/-- An operation that writes into memory of the call's own, and yields something. -/
theorem TrOps.ofSt {h d : Nat} {m m' : Mo} (hst : OpSt P w0.heap.size o e h m m' s) (hM : look M h = some m) (hg : o.guard = none) (hd : o.dst = some d) (hdN : d < N)
    (hn : TrOps P N w0 O0 ops Q ((d, s) :: e) ((h, m') :: M) rest) : TrOps P N w0 O0 ops Q e M (o :: rest) := by
  intro O H a w h0
  refine wpList_plain hg fun K hK => Oper.wp_false (hst O H a w h0.bl.size (h0.slotsAt _) (h0.mem h m hM) _ fun w' x h1 h2 h3 h4 => hK _ _ (hn O H _ _ ⟨?_, ?_, h0.bl.trans (h2.mono (Nat.le_refl _)), h0.lab, ?_, fun h' mm hm => ?_⟩)) _
  · rw [hd]; exact h0.df
  · rw [hd]; simp [Act.put, h0.sz]
  · rw [hd]
    refine put_slots h0.sz hdN h4 fun n s' hs' => ?_
    obtain ⟨z, hz, hr⟩ := h0.slots n s' hs'
    exact ⟨z, hz, hr.mono0 h1⟩
  · rcases look_cons hm with ⟨rfl, rfl⟩ | ⟨hne, hm⟩
    · exact h3
    · exact (h0.mem h' mm hm).mono h1 (by intro e; cases e; exact hne rfl) (by simp) 0 (fun h he => by cases he) (.inl rfl)
theorem PC.ofSt {h d : Nat} {m m' : Mo} (hst : OpSt P w0.heap.size o e h m m' s) (hM : look M0 h = some m) (hg : o.guard = none) (hd : o.dst = some d)
    (hn : PC P N w0 O0 id ops Q hs e0 M0 (ps ++ [⟨d, s, none, some (h, m, m'), true⟩]) ((d, s) :: e) rest) : PC P N w0 O0 id ops Q hs e0 M0 ps e (o :: rest) := by
  intro pre hops hpw he
  subst he
  exact hn (pre ++ [o]) (by simp [hops]) (hpw.snoc ⟨hd, hg, rfl, hM, hst⟩) (by rw [finE_snoc]; rfl)
end
section
variable {P : Program} {N : Nat} {w0 : World} {O0 : Nat → Nat} {Q : Post} {e : Env} {M : Mem}
theorem St.toWin {O : Nat → Nat} {H : Nat → Value} {a : Act} {w : World} {n h k T : Nat} {rows : List (List D)} (hn : look e n = some (.o h)) (hM : look M h = some (.own k T rows)) (hr : 0 < rows.length) (hst : St N w0 O0 e M O H a w) : St N w0 O0 ((n, .w h k 0 rows.length) :: e) M O H a w := by
  refine ⟨hst.df, hst.sz, hst.bl, hst.lab, fun m s hs => ?_, hst.mem⟩
  rcases look_cons hs with ⟨rfl, rfl⟩ | ⟨_, hs⟩
  · obtain ⟨x, hx, hrep⟩ := hst.slots _ _ hn
    obtain ⟨b, cap, xs, g1, g2, g3, g4, g5, g6, g7, g8, g9⟩ := (hst.mem h _ hM).ownSome hr
    refine ⟨x, hx, ?_⟩
    cases hrep with
    | o h h1 =>
      rw [g1]
      have := RepS.w (O := O) (H := H) (w := w) h b k 0 rows.length rows.length cap g1 (by omega)
      simpa using this
  · exact hst.slots m s hs
theorem Tr.toWin {c : Code} (n : Nat) {h k T : Nat} {rows : List (List D)} (hn : look e n = some (.o h)) (hM : look M h = some (.own k T rows)) (hr : 0 < rows.length) (hc : Tr P N w0 O0 ((n, .w h k 0 rows.length) :: e) M c Q) : Tr P N w0 O0 e M c Q :=
  fun O H a w hst => hc O H a w (hst.toWin hn hM hr)
theorem St.ofWin {O : Nat → Nat} {H : Nat → Value} {a : Act} {w : World} {n h k T len : Nat} {rows : List (List D)} (hn : look e n = some (.w h k 0 len)) (hM : look M h = some (.own k T rows)) (hr : 0 < rows.length) (hl : len = rows.length) (hst : St N w0 O0 e M O H a w) : St N w0 O0 ((n, .o h) :: e) M O H a w := by
  refine ⟨hst.df, hst.sz, hst.bl, hst.lab, fun m s hs => ?_, hst.mem⟩
  rcases look_cons hs with ⟨rfl, rfl⟩ | ⟨_, hs⟩
  · obtain ⟨x, hx, hrep⟩ := hst.slots _ _ hn
    obtain ⟨b, cap, xs, g1, g2, g3, g4, g5, g6, g7, g8, g9⟩ := (hst.mem h _ hM).ownSome hr
    refine ⟨x, hx, ?_⟩
    cases hrep with
    | w h b' k lo len L C hH hl' =>
      rw [g1] at hH
      simp only [Value.slice.injEq, Option.some.injEq, Addr.mk.injEq, and_true] at hH
      obtain ⟨rfl, rfl, rfl⟩ := hH
      have := RepS.o (O := O) (H := H) (w := w) h (by rw [g1]; rfl)
      rw [g1] at this
      simpa [hl] using this
  · exact hst.slots m s hs
theorem At.ofWin {x : Exit} (n : Nat) {h k T len : Nat} {rows : List (List D)} (hn : look e n = some (.w h k 0 len)) (hM : look M h = some (.own k T rows)) (hr : 0 < rows.length) (hl : len = rows.length) (hc : At N w0 O0 ((n, .o h) :: e) M x Q) : At N w0 O0 e M x Q :=
  fun O H a w hst => hc O H a w (hst.ofWin hn hM hr hl)
theorem Tr.ofWin {c : Code} (n : Nat) {h k T len : Nat} {rows : List (List D)} (hn : look e n = some (.w h k 0 len)) (hM : look M h = some (.own k T rows)) (hr : 0 < rows.length) (hl : len = rows.length) (hc : Tr P N w0 O0 ((n, .o h) :: e) M c Q) : Tr P N w0 O0 e M c Q :=
  fun O H a w hst => hc O H a w (hst.ofWin hn hM hr hl)
end
section
variable {P : Program} {B : Nat} {o : Oper} {e : Env} {M : Mem} {s : S}
/-- A part of a window. -/
theorem OpSem.slicewL {t k h lo len : Nat} {x l : Operand} {kk : IntKind} {n : Int} (ho : o.op = .slice t x (some l) none none) (hx : opS e x = some (.w h k lo len)) (hl : opS e l = some (.d (.v (.int kk n))))
    (ht : esz P t = some k) (h0 : 0 ≤ n) (h1 : n < len) : OpSem P B o e M (.w h k (lo + n.toNat) (len - n.toNat)) none :=
  .value fun O H a w hs _ => by
    have hx' := hs x (by simp [ho, Op.operands]) _ hx
    have hl' := hs l (by simp [ho, Op.operands]) _ hl
    generalize hv : a.eval x = v at hx'
    generalize hu : a.eval l = u at hl'
    cases hl' with
    | d _ _ hl' => cases hl' with
      | v _ => cases hx' with
        | w h b k lo len L C hH hll =>
          have hw := RepS.w (O := O) (H := H) (w := w) h b k (lo + n.toNat) (len - n.toNat) L C hH (by omega)
          refine ⟨_, ?_, hw⟩
          have := run_slice_l (P := P) w t (some ⟨b, lo * k, none⟩) len (C - lo) (esz_spec ht).1 kk n h0 (by omega)
          simp only [execOp, ho, hv, hu, Option.map_some, Option.map_none, Sem.run_bind, run_sliceAt_slice w t _ _ _ _ (esz_spec ht).1, this, run_sizeElem ht, Result.andThen_ok, Sem.run_pure]
          unfold sliced
          rw [if_neg (by omega)]
          simp only [Option.map_some, Addr.add_lit, ← Nat.add_mul, Nat.sub_sub]
theorem OpSem.slicewH {t k h lo len : Nat} {x l : Operand} {kk : IntKind} {n : Int} (ho : o.op = .slice t x none (some l) none) (hx : opS e x = some (.w h k lo len)) (hl : opS e l = some (.d (.v (.int kk n))))
    (ht : esz P t = some k) (h0 : 0 ≤ n) (h1 : n ≤ len) (h2 : 0 < len) : OpSem P B o e M (.w h k lo n.toNat) none :=
  .value fun O H a w hs _ => by
    have hx' := hs x (by simp [ho, Op.operands]) _ hx
    have hl' := hs l (by simp [ho, Op.operands]) _ hl
    generalize hv : a.eval x = v at hx'
    generalize hu : a.eval l = u at hl'
    cases hl' with
    | d _ _ hl' => cases hl' with
      | v _ => cases hx' with
        | w h b k lo len L C hH hll =>
          have hw := RepS.w (O := O) (H := H) (w := w) h b k lo n.toNat L C hH (by omega)
          refine ⟨_, ?_, hw⟩
          have := run_slice_h (P := P) w t (some ⟨b, lo * k, none⟩) len (C - lo) (esz_spec ht).1 kk n h0 (by omega)
          simp only [execOp, ho, hv, hu, Option.map_some, Option.map_none, Sem.run_bind, run_sliceAt_slice w t _ _ _ _ (esz_spec ht).1, this, run_sizeElem ht, Result.andThen_ok, Sem.run_pure]
          unfold sliced
          rw [if_neg (by omega)]
          simp [Addr.add_lit]
end
/-- What is said less of an operation's outcome. -/
theorem OpSem.le {P : Program} {B : Nat} {o : Oper} {e : Env} {M : Mem} {s s' : S} {mo : Option (Nat × Mo)} (h : OpSem P B o e M s mo) (hl : Le s s') : OpSem P B o e M s' mo :=
  fun O H a w hB hs hm K hK => h O H a w hB hs hm K fun O' H' w' x h1 h2 h3 h4 => hK O' H' w' x h1 h2 (hl _ _ _ _ h3) h4
theorem OpSt.le {P : Program} {B : Nat} {o : Oper} {e : Env} {h : Nat} {m m' : Mo} {s s' : S} (hst : OpSt P B o e h m m' s) (hl : Le s s') : OpSt P B o e h m m' s' :=
  fun O H a w hB hs hm K hK => hst O H a w hB hs hm K fun w' x h1 h2 h3 h4 => hK w' x h1 h2 h3 (hl _ _ _ _ h4)
/-! ### Numbers of other kinds -/
abbrev U (n : Int) : S := .d (.v (.int .u64 n))
def cvk (P : Program) (src dst : TypeId) : Option IntKind := match P.underlying src, P.underlying dst with
  | some _, some (.int k) => some k
  | _, _ => none
theorem OpSem.conv {P : Program} {B : Nat} {o : Oper} {e : Env} {M : Mem} {src dst : TypeId} {x : Operand} {k kx : IntKind} {n : Int} (ho : o.op = .convert src dst x) (hx : opS e x = some (.d (.v (.int kx n)))) (ht : cvk P src dst = some k) (hn : k.wrap n = n) : OpSem P B o e M (.d (.v (.int k n))) none :=
  .value fun O H a w hs _ => by
    have hx' := hs x (by simp [ho, Op.operands]) _ hx
    generalize hv : a.eval x = v at hx'
    have hh : ∃ d, P.underlying src = some d ∧ P.underlying dst = some (.int k) := by
      unfold cvk at ht
      split at ht
      · rename_i d k' h1 h2; cases ht; exact ⟨d, h1, h2⟩
      · cases ht
    obtain ⟨d, h1, h2⟩ := hh
    cases hx' with
    | d _ _ hx' => cases hx' with
      | v _ =>
        refine ⟨.int k n, ?_, .d _ _ (.v _)⟩
        have : (convert src dst (.int kx n)).run P w = .ok (.int k n) w := by simp [convert, run_underlying h1, run_underlying h2, Conv.intToInt, hn]
        simp [execOp, ho, hv, this]
theorem wrap_u64 {n : Int} (h0 : 0 ≤ n) (h1 : n ≤ 18446744073709551615) : IntKind.u64.wrap n = n := IntWalk.u64_in n ⟨h0, h1⟩
theorem wrap_i64 {n : Int} (h0 : -9223372036854775808 ≤ n) (h1 : n ≤ 9223372036854775807) : IntKind.i64.wrap n = n := IntWalk.i64_in n ⟨h0, h1⟩
theorem baddu {t : TypeId} {m n : Int} (h0 : 0 ≤ m + n) (h1 : m + n ≤ 18446744073709551615) : binOp .add t (.int .u64 m) (.int .u64 n) = pure (.int .u64 (m + n)) := by
  rw [binOp_add]; simp only [Op.intArith]; rw [wrap_u64 h0 h1]
theorem bmulu {t : TypeId} {m n : Int} (h0 : 0 ≤ m * n) (h1 : m * n ≤ 18446744073709551615) : binOp .mul t (.int .u64 m) (.int .u64 n) = pure (.int .u64 (m * n)) := by
  rw [binOp_mul]; simp only [Op.intArith]; rw [wrap_u64 h0 h1]
theorem bshrK {t : TypeId} {k yk : IntKind} {m n : Int} (h0 : 0 ≤ n) (h1 : n ≤ k.bits) : binOp .shr t (.int k m) (.int yk n) = pure (.int k (m / 2 ^ n.toNat)) := by
  rw [binOp_shr]; exact shift_shr k yk m n h0 h1
theorem bgtrK {t : TypeId} {k : IntKind} {m n : Int} : binOp .gtr t (.int k m) (.int k n) = pure (.bool (decide (n < m))) := by rw [binOp_gtr]
/-- The low half of a number that has no other. -/
theorem bandLow {t : TypeId} {m : Int} (h0 : 0 ≤ m) (h1 : m ≤ 4294967295) : binOp .and t (.int .u64 m) (.int .u64 4294967295) = pure (.int .u64 m) := by
  rw [binOp_and, intBits_and]
  congr 2
  unfold bits
  obtain ⟨n, rfl⟩ := Int.eq_ofNat_of_zero_le h0
  have hb : (BitVec.ofInt 64 (n : Int) &&& BitVec.ofInt 64 4294967295).toNat = n := by
    have e1 : BitVec.ofInt 64 (n : Int) = BitVec.ofNat 64 n := by simp
    have e2 : BitVec.ofInt 64 4294967295 = BitVec.ofNat 64 4294967295 := by rfl
    rw [e1, e2, BitVec.toNat_and, BitVec.toNat_ofNat, BitVec.toNat_ofNat]
    have e3 : n % 2 ^ 64 = n := Nat.mod_eq_of_lt (by omega)
    have e4 : 4294967295 % 2 ^ 64 = 2 ^ 32 - 1 := by decide
    rw [e3, e4, Nat.and_two_pow_sub_one_eq_mod]
    exact Nat.mod_eq_of_lt (by omega)
  have hb' : ((BitVec.ofInt IntKind.u64.bits (n : Int) &&& BitVec.ofInt IntKind.u64.bits 4294967295).toNat : Int) = (n : Int) := congrArg Int.ofNat hb
  exact (congrArg IntKind.u64.wrap hb').trans (wrap_u64 (by omega) (by omega))
/-- Subtraction that may leave the range. -/
theorem bsubW {t : TypeId} {m n : Int} : binOp .sub t (.int .i64 m) (.int .i64 n) = pure (.int .i64 (IntKind.i64.wrap (m - n))) := by
  rw [binOp_sub]; rfl
end Go.Eng
end

section
/- The engine, part 16: variables of the call's own that are written no more; functions that have caught themselves. The engine, part 17: rows of several cells of the call's own, read, written, cleared, cut; callees that write an argument. -/

set_option linter.unusedSimpArgs false
set_option linter.unnecessarySimpa false
set_option linter.unusedVariables false
namespace Go.Eng
open Go.RowKit (Below)

/-- A pointer to a variable that holds a function which has caught this pointer, at the place of the .u of caps. -/
def selfK (F i0 : Nat) (caps : List S) : Kr := {
  q O w x := ∃ (b : Nat) (ys : List Value), x = .pointer (some ⟨b, 0, none⟩) ∧ O b = 0 ∧ w.cell? ⟨b, 0, none⟩ = some (.func (.func F) #[] ys.toArray) ∧ ys.length = caps.length ∧ ys[i0]? = some x ∧ ∀ (i : Nat) (y : Value) (s : S), ys[i]? = some y → caps[i]? = some s → RepS O zH w y s
  mono := fun O w O' w' x hk ⟨b, ys, h1, h2, h3, h4, h6, h5⟩ => ⟨b, ys, h1, (hk b (World.block_lt_of_cell? w _ h3) h2).1, hk.cell h2 h3, h4, h6, fun i y s hy hs => (h5 i y s hy hs).keeps hk⟩ }

section
variable {P : Program} {B : Nat} {o : Oper} {e : Env} {M : Mem}
end
/-- What is said, when variable h is written no more. -/
def fzb (h : Nat) (f : Nat → S) : Nat → S → S
  | 0, _ => .u
  | n + 1, s => match s with
    | .r h' k => bif Nat.beq h' h then f k else .r h' k
    | .o h' => bif Nat.beq h' h then .u else .o h'
    | .q h' a b c => bif Nat.beq h' h then .u else .q h' a b c
    | .w h' a b c => bif Nat.beq h' h then .u else .w h' a b c
    | .g cs => .g (cs.map (fzb h f n))
    | .t cs => .t (cs.map (fzb h f n))
    | .f fn fs cs => .f fn (fs.map (fzb h f n)) (cs.map (fzb h f n))
    | s => s
theorem fzb_rep {O O' : Nat → Nat} {H : Nat → Value} {w : World} {h : Nat} {f : Nat → S} (hk : Keeps O w O' w) (hf : ∀ (x : Value) (k : Nat), RepS O H w x (.r h k) → RepS O' H w x (f k)) : ∀ (n : Nat) (x : Value) (s : S), RepS O H w x s → RepS O' H w x (fzb h f n s)
  | 0, x, _, _ => .u x
  | n + 1, x, s, hr => by
    have hr' := hr
    cases hr with
    | d x y hh => exact hr'.keeps hk
    | g xs ss hl h1 hg =>
      refine .g xs _ (by simpa using hl) h1 fun i x s hx hs => ?_
      simp only [List.getElem?_map, Option.map_eq_some_iff] at hs
      obtain ⟨s', hs', rfl⟩ := hs
      exact fzb_rep hk hf n x s' (hg i x s' hx hs')
    | p => exact hr'.keeps hk
    | r h' b k hH =>
      simp only [fzb]
      cases hb : Nat.beq h' h with
      | true => have := Nat.eq_of_beq_eq_true hb; subst this; exact hf _ _ hr'
      | false => exact hr'.keeps hk
    | o h' h1 =>
      simp only [fzb]
      cases hb : Nat.beq h' h with
      | true => exact .u _
      | false => exact hr'.keeps hk
    | q h' b k i j len cap hH =>
      simp only [fzb]
      cases hb : Nat.beq h' h with
      | true => exact .u _
      | false => exact hr'.keeps hk
    | t xs ss hl hg =>
      refine .t xs _ (by simpa using hl) fun i x s hx hs => ?_
      simp only [List.getElem?_map, Option.map_eq_some_iff] at hs
      obtain ⟨s', hs', rfl⟩ := hs
      exact fzb_rep hk hf n x s' (hg i x s' hx hs')
    | f fn xs ys fs cs hl hl' hg hg' =>
      refine .f fn xs ys _ _ (by simpa using hl) (by simpa using hl') (fun i x s hx hs => ?_) (fun i x s hx hs => ?_)
      · simp only [List.getElem?_map, Option.map_eq_some_iff] at hs
        obtain ⟨s', hs', rfl⟩ := hs
        exact fzb_rep hk hf n x s' (hg i x s' hx hs')
      · simp only [List.getElem?_map, Option.map_eq_some_iff] at hs
        obtain ⟨s', hs', rfl⟩ := hs
        exact fzb_rep hk hf n x s' (hg' i x s' hx hs')
    | c => exact hr'.keeps hk
    | w h' b k lo len L C hH hl =>
      simp only [fzb]
      cases hb : Nat.beq h' h with
      | true => exact .u _
      | false => exact hr'.keeps hk
    | a => exact hr'.keeps hk
    | u => exact .u _
def Mo.fzb (h : Nat) (f : Nat → S) : Mo → Mo
  | .box cs => .box (cs.map (Go.Eng.fzb h f 9))
  | m => m
def fzbE (h : Nat) (f : Nat → S) (e : Env) : Env := e.map fun p => (p.1, fzb h f 9 p.2)
def fzbM (h : Nat) (f : Nat → S) (M : Mem) : Mem := M.map fun p => (p.1, bif Nat.beq p.1 h then .gone else p.2.fzb h f)

section
variable {P : Program} {N : Nat} {w0 : World} {O0 : Nat → Nat} {Q : Post} {e : Env} {M : Mem}
theorem St.freezeR {O : Nat → Nat} {H : Nat → Value} {a : Act} {w : World} {h : Nat} {cs : List S} {f : Nat → S} (hM : look M h = some (.box cs)) (hst : St N w0 O0 e M O H a w)
    (hf : ∀ b, H h = .pointer (some ⟨b, 0, none⟩) → w0.heap.size ≤ b → O b = h + 1 → MHold O H w0.heap.size w h (.box cs) → ∀ O', (∀ c, O' c = if c = b then 0 else O c) → ∀ (k : Nat), RepS O' H w (.pointer (some ⟨b, k, none⟩)) (f k)) :
    ∃ O', St N w0 O0 (fzbE h f e) (fzbM h f M) O' H a w := by
  have hmh := hst.mem h _ hM
  have hmh' := hmh
  obtain ⟨b, xs, T, hH, hB, hO, hb, hsz, hc⟩ := hmh
  obtain ⟨O', hO'⟩ : ∃ O' : Nat → Nat, O' = fun c => if c = b then 0 else O c := ⟨_, rfl⟩
  have hO'' : ∀ c, O' c = if c = b then 0 else O c := fun c => by rw [hO']
  have hk : Keeps O w O' w := fun c _ h0 => ⟨by rw [hO'']; split; rfl; exact h0, rfl⟩
  have hff := hf b hH hB hO hmh' O' hO''
  have hr : ∀ (n : Nat) (x : Value) (s : S), RepS O H w x s → RepS O' H w x (fzb h f n s) := fzb_rep hk fun x k hr => by
    cases hr with
    | r h' b' k hH' =>
      rw [hH] at hH'
      simp only [Value.pointer.injEq, Option.some.injEq, Addr.mk.injEq, and_true] at hH'
      subst hH'
      exact hff k
  refine ⟨O', hst.df, hst.sz, hst.bl, fun c hc' => ?_, fun n s hs => ?_, fun n m hm => ?_⟩
  · rw [hO'', if_neg (by omega)]; exact hst.lab c hc'
  · unfold fzbE at hs
    rw [look_map (fun _ v => fzb h f 9 v)] at hs
    obtain ⟨s', hs', rfl⟩ := Option.map_eq_some_iff.1 hs
    obtain ⟨x, hx, hrep⟩ := hst.slots n s' hs'
    exact ⟨x, hx, hr 9 x s' hrep⟩
  · unfold fzbM at hm
    rw [look_map (fun (k : Nat) (v : Mo) => bif Nat.beq k h then Mo.gone else Mo.fzb h f v)] at hm
    obtain ⟨m', hm', rfl⟩ := Option.map_eq_some_iff.1 hm
    cases hbq : Nat.beq n h with
    | true => simp [MHold]
    | false =>
      have hne : n ≠ h := fun e => by subst e; simp at hbq
      simp only [cond_false]
      have hold := hst.mem n m' hm'
      cases m' with
      | gone => trivial
      | fr K => exact K.mono _ _ _ _ _ hk hold
      | box cs' =>
        obtain ⟨b1, xs1, T1, g1, g2, g3, g4, g5, g6⟩ := hold
        refine ⟨b1, xs1, T1, g1, g2, ?_, g4, by simpa [Mo.fzb] using g5, fun i s hi => ?_⟩
        · rw [hO'', if_neg (fun e => by subst e; rw [hO] at g3; omega)]; exact g3
        · simp only [List.getElem?_map, Option.map_eq_some_iff] at hi
          obtain ⟨s', hs', rfl⟩ := hi
          obtain ⟨x, hx, hrep, ho⟩ := g6 i s' hs'
          exact ⟨x, hx, hr 9 x s' hrep, ho⟩
      | own k T1 rows =>
        rcases hold with ⟨g1, g2⟩ | ⟨b1, cap, xs1, g1, g2, g3, g4, g5, g6, g7, g8, g9⟩
        · exact .inl ⟨g1, g2⟩
        · refine .inr ⟨b1, cap, xs1, g1, g2, ?_, g4, g5, g6, g7, g8, fun i r j d hi hj => ?_⟩
          · rw [hO'', if_neg (fun e => by subst e; rw [hO] at g3; omega)]; exact g3
          · obtain ⟨x, hx, hrep, ho⟩ := g9 i r j d hi hj
            exact ⟨x, hx, hrep.mono hk, ho⟩
/-- A variable of plain data is written no more. -/
theorem Tr.freezeR {c : Code} (h : Nat) {cs : List S} {ds : List D} (hM : look M h = some (.box cs)) (hd : cs.mapM S.toD = some ds) (hc : Tr P N w0 O0 (fzbE h (fun k => .p (ds.drop k)) e) (fzbM h (fun k => .p (ds.drop k)) M) c Q) : Tr P N w0 O0 e M c Q := by
  intro O H a w hst
  obtain ⟨O', hst'⟩ := hst.freezeR (f := fun k => .p (ds.drop k)) hM (fun b hH hB hO hm O' hO' k => by
    obtain ⟨b', xs, T, hH', hB', hO2, hb, hsz, hcc⟩ := hm
    rw [hH] at hH'
    simp only [Value.pointer.injEq, Option.some.injEq, Addr.mk.injEq, and_true] at hH'
    subst hH'
    obtain ⟨m1, m2⟩ := mapM_some hd
    have hkk : Keeps O w O' w := fun c _ h0 => ⟨by rw [hO']; split; rfl; exact h0, rfl⟩
    have key : ∀ (j : Nat) (d : D), ds[j]? = some d → ∃ x, xs[j]? = some x ∧ RepD O w x d := fun j d hj => by
      have hlt : j < cs.length := by rw [← m1]; exact (List.getElem?_eq_some_iff.1 hj).1
      have h1 := m2 j _ d (List.getElem?_eq_getElem hlt) hj
      obtain ⟨x, hx, hr, _⟩ := hcc j _ (List.getElem?_eq_getElem hlt)
      generalize cs[j] = s at h1 hr
      cases s <;> simp [S.toD] at h1
      subst h1
      cases hr with
      | d _ _ q => exact ⟨x, hx, q⟩
    refine .p b k (ds.drop k) (fun j => (xs[k + j]?).getD undef) (fun j d _ => by rw [hO', if_pos rfl]) (fun j d hj => ?_) (fun j d hj => ?_)
    · rw [List.getElem?_drop] at hj
      obtain ⟨x, hx, _⟩ := key (k + j) d hj
      rw [hx]; exact cellOf hb hx
    · rw [List.getElem?_drop] at hj
      obtain ⟨x, hx, hr⟩ := key (k + j) d hj
      rw [hx]; exact hr.mono hkk)
  exact hc O' H a w hst'
end
end Go.Eng

set_option linter.unusedSimpArgs false
set_option linter.unnecessarySimpa false
set_option linter.unusedVariables false
namespace Go.Eng
open Go.RowKit (Below)

section
variable {P : Program} {B : Nat} {o : Oper} {e : Env} {M : Mem} {s : S}

/-- An element's place in a window. -/
theorem OpSem.idxw {t k h lo len : Nat} {x i : Operand} {kk : IntKind} {n : Int} (ho : o.op = .indexAddr t x i) (hx : opS e x = some (.w h k lo len)) (hi : opS e i = some (.d (.v (.int kk n))))
    (ht : esz P t = some k) (h0 : 0 ≤ n) (h1 : n < len) : OpSem P B o e M (.q h k (lo + n.toNat) 0) none :=
  .value fun O H a w hs hm => by
    have hx' := hs x (by simp [ho, Op.operands]) _ hx
    have hi' := hs i (by simp [ho, Op.operands]) _ hi
    generalize hv : a.eval x = v at hx'
    generalize hu : a.eval i = u at hi'
    cases hi' with
    | d _ _ hi' =>
      cases hi' with
      | v _ =>
        cases hx' with
        | w h b k lo len L C hH hl =>
          refine ⟨.pointer (some ⟨b, (lo + n.toNat) * k + 0, none⟩), ?_, .q h b k (lo + n.toNat) 0 L C hH⟩
          have := run_idx (P := P) (b := b) (off := lo * k) (cap := C - lo) (kk := kk) ht h0 h1 w
          have e1 : lo * k + n.toNat * k = (lo + n.toNat) * k + 0 := by rw [Nat.add_mul]; rfl
          rw [e1] at this
          simp [execOp, ho, hv, hu, this]

theorem OpSem.lenw {x : Operand} {t k h lo len : Nat} (ho : o.op = .call { callee := .builtin .len, args := #[x], argTypes := #[t] }) (hx : opS e x = some (.w h k lo len)) (ht : esz P t = some k) :
    OpSem P B o e M (.d (.v (.int .i64 len))) none :=
  .value fun O H a w hs hm => by
    have hx' := hs x (by simp [ho, Op.operands, Call.operands]) _ hx
    generalize hv : a.eval x = v at hx'
    cases hx' with
    | w h b k lo len L C hH hl =>
      exact ⟨_, by simp [execOp, ho, resolve, invoke, builtin, hv, run_len_slice w t _ _ _ _ (esz_spec ht).1, goInt], .d _ _ (.v _)⟩

/-- A row of the call's own slice, read. -/
theorem OpSem.loadqN {t : TypeId} {x : Operand} {h k T i : Nat} {rows : List (List D)} {r : List D} (ho : o.op = .load t x) (hx : opS e x = some (.q h k i 0)) (hM : look M h = some (.own k T rows))
    (ht : vsz P t = some (true, k)) (hi : rows[i]? = some r) : OpSem P B o e M (.g (r.map .d)) none :=
  .value fun O H a w hs hm => by
    have hr := hs x (by simp [ho, Op.operands]) _ hx
    generalize hv : a.eval x = v at hr
    cases hr with
    | q h b k i j len cap hH =>
      rcases hm h _ hM with ⟨h0, _⟩ | ⟨b', cap', xs, hH', _, _, hb, _, _, hsz, hw, hc⟩
      · rw [h0] at hH; cases hH
      · rw [hH] at hH'
        simp only [Value.slice.injEq, Option.some.injEq, Addr.mk.injEq, and_true] at hH'
        obtain ⟨rfl, _, _⟩ := hH'
        have hrk : r.length = k := hw r (List.mem_of_getElem? hi)
        have key : ∀ j, j < k → ∃ x d, r[j]? = some d ∧ xs[i * k + j]? = some x ∧ RepD O w x d ∧ x.oneCell' = true := fun j hj => by
          have hd := List.getElem?_eq_getElem (l := r) (i := j) (by omega)
          obtain ⟨x, h1, h2, h3⟩ := hc i r j _ hi hd
          exact ⟨x, _, hd, h1, h2, h3⟩
        have hl : ((xs.toList.drop (i * k)).take k).length = k := by
          have : k = 0 ∨ i * k + k ≤ xs.size := by
            by_cases hk0 : k = 0
            · exact .inl hk0
            · obtain ⟨x, d, _, h1, _⟩ := key (k - 1) (by omega)
              have := (Array.getElem?_eq_some_iff.1 h1).1
              exact .inr (by omega)
          rcases this with h | h
          · simp [h]
          · simp; omega
        refine ⟨.agg ((xs.toList.drop (i * k)).take k).toArray, ?_, .g _ _ (by simp [hl, hrk]) (fun z hz => ?_) (fun j z s hz hs => ?_)⟩
        · have := run_loadVarN (P := P) (t := t) (xs := (xs.toList.drop (i * k)).take k) (by rw [hl]; exact ht) (w := w) (b := b) (off := i * k + 0) (fun j v hj => by
            have hjn : j < k := by have := (List.getElem?_eq_some_iff.1 hj).1; omega
            rw [List.getElem?_take_of_lt hjn, List.getElem?_drop] at hj
            exact cellOf hb (by simpa using hj))
          simp only [execOp, ho, Instr.loadAt, Instr.sureAddr, hv]
          simp only [Sem.run_bind, Sem.run_pure, Result.andThen_ok, this]
        · obtain ⟨j, hj⟩ := List.getElem?_of_mem hz
          have hjn : j < k := by have := (List.getElem?_eq_some_iff.1 hj).1; omega
          rw [List.getElem?_take_of_lt hjn, List.getElem?_drop] at hj
          obtain ⟨y, d, _, hy, _, h1⟩ := key j hjn
          have : z = y := by simpa [hy] using hj.symm
          rw [this]; exact h1
        · have hjn : j < k := by have := (List.getElem?_eq_some_iff.1 hz).1; omega
          rw [List.getElem?_take_of_lt hjn, List.getElem?_drop] at hz
          obtain ⟨y, d, hd, hy, hr, _⟩ := key j hjn
          have : z = y := by simpa [hy] using hz.symm
          rw [this]
          rw [List.getElem?_map, hd] at hs
          simp at hs
          subst hs
          exact .d _ _ hr

/-- Cells laid over a row. -/
theorem MHold.setCells {O : Nat → Nat} {H : Nat → Value} {w : World} {h k T b cap lo : Nat} {xs : Array Value} {rows new : List (List D)} {vs : List Value} (hH : H h = .slice (some ⟨b, 0, none⟩) rows.length cap) (hB : B ≤ b) (hO : O b = h + 1) (hb : w.heap[b]? = some (.cells xs T (0, 0))) (hlc : rows.length ≤ cap) (hcm : cap ≤ maxLen) (hsz : xs.size = cap * k)
    (hw : ∀ r, r ∈ rows → r.length = k) (hc : ∀ (i : Nat) (r : List D) (j : Nat) (d : D), rows[i]? = some r → r[j]? = some d → ∃ x, xs[i * k + j]? = some x ∧ RepD O w x d ∧ x.oneCell' = true)
    (hlen : lo + new.length ≤ rows.length) (hvs : vs.length = new.length * k) (hnw : ∀ r, r ∈ new → r.length = k)
    (hn : ∀ (i : Nat) (r : List D) (j : Nat) (d : D), new[i]? = some r → r[j]? = some d → ∃ x, vs[i * k + j]? = some x ∧ RepD O w x d ∧ x.oneCell' = true) (hone : ∀ v, v ∈ vs → v.oneCell' = true) :
    Keep (some h) none O H w O H (w.setRow b (xs.toList.take (lo * k) ++ vs ++ xs.toList.drop (lo * k + vs.length)).toArray) ∧ Below B w (w.setRow b (xs.toList.take (lo * k) ++ vs ++ xs.toList.drop (lo * k + vs.length)).toArray) ∧
      MHold O H B (w.setRow b (xs.toList.take (lo * k) ++ vs ++ xs.toList.drop (lo * k + vs.length)).toArray) h (.own k T (rows.take lo ++ new ++ rows.drop (lo + new.length))) := by
  have hk' := Keep.setRow (O := O) (H := H) (w := w) (cs := (xs.toList.take (lo * k) ++ vs ++ xs.toList.drop (lo * k + vs.length)).toArray) hO
  have hfit : lo * k + vs.length ≤ xs.size := by
    rw [hvs, hsz, ← Nat.add_mul]
    exact Nat.mul_le_mul_right k (by omega)
  have hln : (rows.take lo ++ new ++ rows.drop (lo + new.length)).length = rows.length := by simp; omega
  refine ⟨hk', Below.setRow hB, .inr ⟨b, cap, _, by rw [hln]; exact hH, hB, hO, setRow_heap w b xs _ T _ hb, by rw [hln]; exact hlc, hcm, ?_, fun r hr => ?_, fun i r j d hi hj => ?_⟩⟩
  · simp only [List.size_toArray, List.length_append, List.length_take, List.length_drop, Array.length_toList]
    rw [← hsz]; omega
  · simp only [List.mem_append] at hr
    rcases hr with (hr | hr) | hr
    · exact hw r (List.mem_of_mem_take hr)
    · exact hnw r hr
    · exact hw r (List.mem_of_mem_drop hr)
  · have hrl : r.length = k := by
      have hr := List.mem_of_getElem? hi
      simp only [List.mem_append] at hr
      rcases hr with (hr | hr) | hr
      · exact hw r (List.mem_of_mem_take hr)
      · exact hnw r hr
      · exact hw r (List.mem_of_mem_drop hr)
    have hjk : j < k := by rw [← hrl]; exact (List.getElem?_eq_some_iff.1 hj).1
    have hkeep : Keeps O w O (w.setRow b (xs.toList.take (lo * k) ++ vs ++ xs.toList.drop (lo * k + vs.length)).toArray) := hk'.keeps
    by_cases h1 : i < lo
    · have hi' : rows[i]? = some r := by
        rw [List.append_assoc, List.getElem?_append_left (by simp; omega), List.getElem?_take_of_lt h1] at hi
        exact hi
      obtain ⟨x, hx, hr, ho⟩ := hc i r j d hi' hj
      refine ⟨x, ?_, hr.mono hkeep, ho⟩
      have hlt : i * k + j < lo * k := by
        have := Nat.mul_le_mul_right k (show i + 1 ≤ lo by omega)
        rw [Nat.add_mul] at this
        omega
      have hb2 : i * k + j < xs.size := by omega
      simp only [List.getElem?_toArray]
      rw [List.append_assoc, List.getElem?_append_left (by simp; omega), List.getElem?_take_of_lt hlt]
      simpa using hx
    · by_cases h2 : i < lo + new.length
      · have hi' : new[i - lo]? = some r := by
          rw [List.append_assoc, List.getElem?_append_right (by simp; omega), List.getElem?_append_left (by simp; omega)] at hi
          rw [← hi]; congr 1; simp; omega
        obtain ⟨x, hx, hr, ho⟩ := hn (i - lo) r j d hi' hj
        refine ⟨x, ?_, hr.mono hkeep, ho⟩
        have e1 : i * k + j = lo * k + ((i - lo) * k + j) := by
          rw [← Nat.add_assoc, ← Nat.add_mul]; congr 2; omega
        simp only [List.getElem?_toArray]
        have hxl := (List.getElem?_eq_some_iff.1 hx).1
        rw [e1, List.append_assoc, List.getElem?_append_right (by simp; omega), List.getElem?_append_left (by simp; omega)]
        rw [← hx]; congr 1; simp; omega
      · have hi' : rows[i]? = some r := by
          rw [List.getElem?_append_right (by simp; omega), List.getElem?_drop] at hi
          rw [← hi]; congr 1; simp; omega
        obtain ⟨x, hx, hr, ho⟩ := hc i r j d hi' hj
        refine ⟨x, ?_, hr.mono hkeep, ho⟩
        have hge : lo * k + vs.length ≤ i * k + j := by
          have := Nat.mul_le_mul_right k (show lo + new.length ≤ i by omega)
          rw [Nat.add_mul] at this
          omega
        simp only [List.getElem?_toArray]
        rw [List.getElem?_append_right (by simp; omega), List.getElem?_drop]
        have e2 : lo * k + vs.length + (i * k + j - (List.take (lo * k) xs.toList ++ vs).length) = i * k + j := by simp; omega
        rw [e2]
        simpa using hx

theorem zeroFlat {zs : List Value} {k : Nat} (hzk : zs.length = k) : ∀ n, (List.range (n * k)).map (fun i => zs.toArray[i % k]!) = (List.replicate n zs).flatten
  | 0 => by simp
  | n + 1 => by
    rw [List.replicate_succ, List.flatten_cons, Nat.succ_mul, Nat.add_comm, List.range_add, List.map_append, List.map_map]
    congr 1
    · apply List.ext_getElem?
      intro i
      by_cases hi : i < k
      · simp [hi, hzk, getElem!_def, List.getElem?_eq_getElem (by omega : i < zs.length), Nat.mod_eq_of_lt hi]
      · rw [List.getElem?_eq_none (by simp; omega), List.getElem?_eq_none (by omega)]
    · rw [← zeroFlat hzk n]
      apply List.map_congr_left
      intro i _
      simp

/-- clear of a window. -/
theorem OpSt.clearW {t k T h lo len : Nat} {x : Operand} {rows : List (List D)} {zs : List Value} (ho : o.op = .call { callee := .builtin .clear, args := #[x], argTypes := #[t] }) (hx : opS e x = some (.w h k lo len)) (ht : esz P t = some k)
    (hz : zcells P (P.elem t) = some zs) (h1 : zs.all Value.oneCell' = true) (hzk : zs.length = k) (hk0 : 0 < k) (hlen : lo + len ≤ rows.length) :
    OpSt P B o e h (.own k T rows) (.own k T (rows.take lo ++ List.replicate len (zs.map .v) ++ rows.drop (lo + len))) (.t []) := by
  intro O H a w hB hs hm K hK
  have hx' := hs x (by simp [ho, Op.operands, Call.operands]) _ hx
  generalize hv : a.eval x = v at hx'
  cases hx' with
  | w h b k lo len L C hH hl =>
    have hrunE : (execOp a.eval o).run P w = ((Builtin.clear_ #[t] o.type #[.slice (some ⟨b, lo * k, none⟩) len (C - lo)]).run P w).andThen fun v w' => .ok (.value v) w' := by
      simp [execOp, ho, resolve, invoke, builtin, hv]
    have hrt : RepS O H w (.tuple #[]) (.t []) := .t [] [] rfl (fun i x s h => by simp at h)
    rcases hm with ⟨h0, rfl⟩ | ⟨b', cap, xs, hH', hBb, hO, hb, hlc, hcm, hsz, hw, hc⟩
    · rw [h0] at hH; cases hH
    · rw [hH] at hH'
      simp only [Value.slice.injEq, Option.some.injEq, Addr.mk.injEq, and_true] at hH'
      obtain ⟨rfl, rfl, rfl⟩ := hH'
      unfold Oper.wp
      rw [hrunE]
      by_cases hl0 : len = 0
      · subst hl0
        have : (Builtin.clear_ #[t] o.type #[.slice (some ⟨b, lo * k, none⟩) 0 (C - lo)]).run P w = .ok (.tuple #[]) w := by
          simp [Builtin.clear_, run_underlying (esz_spec ht).1]
        rw [this]
        refine hK w _ (.refl _ _ _ _ _) (.refl _ _) ?_ hrt
        simp only [List.replicate_zero, List.append_nil, Nat.add_zero, List.take_append_drop]
        exact .inr ⟨b, C, xs, hH, hBb, hO, hb, hlc, hcm, hsz, hw, hc⟩
      · obtain ⟨z, hz1, hz2⟩ := run_zero hz w
        have hzc : (Builtin.zeroCells z.cells len).toList = (List.replicate len zs).flatten := by
          rw [hz2]
          unfold Builtin.zeroCells
          simp only [Array.toList_map, Array.toList_range, List.size_toArray]
          rw [hzk]
          exact zeroFlat hzk len
        have hz0 := List.all_eq_true.1 h1
        have hflen : ∀ n, ((List.replicate n zs).flatten).length = n * k := fun n => by simp [hzk]
        have hone : ∀ v, v ∈ (List.replicate len zs).flatten → v.oneCell' = true := fun v hv => by
          rw [List.mem_flatten] at hv
          obtain ⟨l, hl, hvl⟩ := hv
          rw [List.mem_replicate] at hl
          exact hz0 v (hl.2 ▸ hvl)
        obtain ⟨c1, c2, c3⟩ := MHold.setCells (new := List.replicate len (zs.map .v)) (vs := (List.replicate len zs).flatten) (lo := lo) hH hBb hO hb hlc hcm hsz hw hc (by simpa using hlen) (by rw [hflen]; simp) (fun r hr => by rw [List.mem_replicate] at hr; rw [hr.2]; simp [hzk]) (fun i r j d hi hj => by
          rw [List.getElem?_replicate] at hi
          split at hi
          · rename_i hil
            simp only [Option.some.injEq] at hi
            subst hi
            simp only [List.getElem?_map, Option.map_eq_some_iff] at hj
            obtain ⟨v, hv, rfl⟩ := hj
            have hjk : j < k := by rw [← hzk]; exact (List.getElem?_eq_some_iff.1 hv).1
            refine ⟨v, ?_, .v v, hz0 v (List.mem_of_getElem? hv)⟩
            have : ∀ (n i : Nat), i < n → ((List.replicate n zs).flatten)[i * k + j]? = some v := by
              intro n
              induction n with
              | zero => intro i hi; omega
              | succ n ih =>
                intro i hi
                rw [List.replicate_succ, List.flatten_cons]
                cases i with
                | zero => rw [List.getElem?_append_left (by omega)]; simpa using hv
                | succ i =>
                  rw [List.getElem?_append_right (by rw [hzk, Nat.succ_mul]; omega), ← ih i (by omega)]
                  congr 1
                  rw [hzk, Nat.succ_mul]; omega
            exact this len i hil
          · cases hi) hone
        have hfit : lo * k + ((List.replicate len zs).flatten).length ≤ xs.size := by
          rw [hflen, hsz, ← Nat.add_mul]
          exact Nat.mul_le_mul_right k (by omega)
        have hst := run_storeCells_at P b (lo * k) T ((List.replicate len zs).flatten) 0 xs w hb (by simpa using hfit) hone
        have : (Builtin.clear_ #[t] o.type #[.slice (some ⟨b, lo * k, none⟩) len (C - lo)]).run P w = .ok (.tuple #[]) (w.setRow b (xs.toList.take (lo * k) ++ (List.replicate len zs).flatten ++ xs.toList.drop (lo * k + ((List.replicate len zs).flatten).length)).toArray) := by
          simp only [Nat.add_zero] at hst
          simp only [Builtin.clear_]
          simp [run_underlying (esz_spec ht).1, hz1, hzc, hst, hl0]
        rw [this]
        refine hK _ _ c1 c2 ?_ (hrt.mono0 c1)
        simpa using c3
end
end Go.Eng
end

section
/- The engine, part 18: callees that write an argument. -/

set_option linter.unusedSimpArgs false
set_option linter.unnecessarySimpa false
set_option linter.unusedVariables false
namespace Go.Eng
open Go.RowKit (Below)

/-- The exact value of what a slot holds, where it is known. -/
def valS (H : Nat → Value) : Nat → S → Option Value
  | 0, _ => none
  | n + 1, s => match s with
    | .d (.v x) => some x
    | .o h => some (H h)
    | .g cs => (cs.mapM (valS H n)).map fun l => .agg l.toArray
    | .t cs => (cs.mapM (valS H n)).map fun l => .tuple l.toArray
    | .f fn [] [] => some (.func (.func fn) #[] #[])
    | _ => none
theorem valS_list {O : Nat → Nat} {H : Nat → Value} {w : World} {f : S → Option Value} : ∀ {xs : List Value} {ss : List S} {ys : List Value}, xs.length = ss.length →
    (∀ (i : Nat) (x : Value) (s : S) (y : Value), xs[i]? = some x → ss[i]? = some s → f s = some y → x = y) → ss.mapM f = some ys → xs = ys := by
  intro xs ss ys hl h hm
  obtain ⟨m1, m2⟩ := mapM_some hm
  refine List.ext_getElem (by rw [hl, m1]) fun i h1 h2 => ?_
  exact h i _ _ _ (List.getElem?_eq_getElem h1) (List.getElem?_eq_getElem (by omega)) (m2 i _ _ (List.getElem?_eq_getElem (by omega)) (List.getElem?_eq_getElem h2))
theorem valS_rep {O : Nat → Nat} {H : Nat → Value} {w : World} : ∀ (n : Nat) {x y : Value} {s : S}, RepS O H w x s → valS H n s = some y → x = y
  | 0, _, _, _, _, h => by simp [valS] at h
  | n + 1, x, y, s, hr, h => by
    cases hr with
    | d x d hd =>
      cases hd with
      | v x => simpa [valS] using h
      | e => simp [valS] at h
      | s => simp [valS] at h
    | g xs ss hl h1 hg =>
      simp only [valS, Option.map_eq_some_iff] at h
      obtain ⟨l, hl', rfl⟩ := h
      rw [valS_list (O := O) (H := H) (w := w) hl (fun i x s y hx hs hv => valS_rep n (hg i x s hx hs) hv) hl']
    | t xs ss hl hg =>
      simp only [valS, Option.map_eq_some_iff] at h
      obtain ⟨l, hl', rfl⟩ := h
      rw [valS_list (O := O) (H := H) (w := w) hl (fun i x s y hx hs hv => valS_rep n (hg i x s hx hs) hv) hl']
    | o h' h1 => simpa [valS] using h
    | f fn xs ys fs cs hl hl' hx hy =>
      cases fs with
      | nil =>
        cases cs with
        | nil =>
          cases xs with
          | nil =>
            cases ys with
            | nil => simpa [valS] using h
            | cons => simp at hl'
          | cons => simp at hl
        | cons => simp [valS] at h
      | cons => simp [valS] at h
    | p => simp [valS] at h
    | r => simp [valS] at h
    | q => simp [valS] at h
    | w => simp [valS] at h
    | a => simp [valS] at h
    | c => simp [valS] at h
    | u => simp [valS] at h

/-- Only the block of a slice may have changed. -/
structure Touch (v : Value) (w w' : World) : Prop where
  os : w'.os = w.os
  tape : w'.tape = w.tape
  output : w'.output = w.output
  size : w.heap.size ≤ w'.heap.size
  same : ∀ b, b < w.heap.size → v.ownBlock ≠ some b → w'.heap[b]? = w.heap[b]?

def newBlock (v v' : Value) (w : World) : Prop := v'.ownBlock = none ∨ v'.ownBlock = v.ownBlock ∨ ∃ b, v'.ownBlock = some b ∧ w.heap.size ≤ b

/-- What a function promises that is handed a slice that it may write. -/
structure DoesW (P : Program) (f : Nat) (args : Value → List Value) (res : Value → Value) (k T : Nat) (rows rows' : List (List D)) : Prop where
  can : ∀ xs w, (callFunc f xs).run P w = .ok (.enter f xs) w
  run : ∀ (w : World) (v : Value), OwnVal 0 w v k T rows → Calls P f (args v).toArray w fun en w' => ∃ v', en = .returned (res v') ∧ Touch v w w' ∧ OwnVal 0 w' v' k T rows' ∧ newBlock v v' w
/-- .. and leaves the slice's value as it is. -/
structure DoesWS (P : Program) (f : Nat) (args : Value → List Value) (res : Value) (k T : Nat) (rows rows' : List (List D)) : Prop where
  can : ∀ xs w, (callFunc f xs).run P w = .ok (.enter f xs) w
  run : ∀ (w : World) (v : Value), OwnVal 0 w v k T rows → Calls P f (args v).toArray w fun en w' => en = .returned res ∧ Touch v w w' ∧ OwnVal 0 w' v k T rows'

def plainB (rows : List (List D)) : Bool := rows.all fun r => r.all fun d => match d with | .v _ => true | _ => false

theorem MHold.ownVal {O : Nat → Nat} {H : Nat → Value} {B : Nat} {w : World} {h k T : Nat} {rows : List (List D)} (hm : MHold O H B w h (.own k T rows)) (hp : plainB rows = true) : OwnVal B w (H h) k T rows := by
  rcases hm with ⟨h0, rfl⟩ | ⟨b, cap, xs, hH, hB, hO, hb, hlc, hcm, hsz, hw, hc⟩
  · exact .inl ⟨h0, rfl⟩
  · refine .inr ⟨b, cap, xs, hH, hB, hb, hlc, hcm, hsz, hw, fun i r j d hi hj => ?_⟩
    obtain ⟨x, hx, hr, h1⟩ := hc i r j d hi hj
    have := List.all_eq_true.1 (List.all_eq_true.1 hp r (List.mem_of_getElem? hi)) d (List.mem_of_getElem? hj)
    cases hr with
    | v _ => exact ⟨x, hx, rfl, h1⟩
    | _ => simp at this
theorem OwnVal.weak {B B' : Nat} {w : World} {x : Value} {k T : Nat} {rows : List (List D)} (h : OwnVal B w x k T rows) (hB : B' ≤ B) : OwnVal B' w x k T rows := by
  rcases h with h | ⟨b, cap, xs, h1, h2, h3⟩
  · exact .inl h
  · exact .inr ⟨b, cap, xs, h1, by omega, h3⟩
theorem MHold.label {O : Nat → Nat} {H : Nat → Value} {B : Nat} {w : World} {h k T : Nat} {rows : List (List D)} (hm : MHold O H B w h (.own k T rows)) {b : Nat} (hb : (H h).ownBlock = some b) : O b = h + 1 ∧ B ≤ b ∧ b < w.heap.size := by
  rcases hm with ⟨h0, rfl⟩ | ⟨b', cap, xs, hH, hB, hO, hb', _⟩
  · rw [h0] at hb; cases hb
  · rw [hH] at hb
    simp only [Value.ownBlock, Option.some.injEq] at hb
    subst hb
    exact ⟨hO, hB, (Array.getElem?_eq_some_iff.1 hb').1⟩

theorem callW_core {O : Nat → Nat} {H : Nat → Value} {B : Nat} {w w' : World} {h k T : Nat} {rows rows' : List (List D)} {v' : Value} (hm : MHold O H B w h (.own k T rows)) (hB : B ≤ w.heap.size) (ht : Touch (H h) w w') (hv : OwnVal 0 w' v' k T rows') (hn : newBlock (H h) v' w) :
    ∃ O' H', H' h = v' ∧ v'.oneCell' = true ∧ Keep (some h) (some h) O H w O' H' w' ∧ Below B w w' ∧ MHold O' H' B w' h (.own k T rows') := by
  refine ⟨fun b => if b < w.heap.size then O b else h + 1, fun n => if n = h then v' else H n, by simp, ?_, ⟨fun b hb => by simp [hb], fun b hb hne => ht.same b hb fun e => ?_, fun n hn => ?_⟩, ⟨ht.os, ht.tape, ht.output, ht.size, fun b hb => ht.same b (by omega) fun e => ?_⟩, ?_⟩
  · rcases hv with ⟨rfl, _⟩ | ⟨b, cap, xs, rfl, _⟩ <;> rfl
  · exact hne h rfl (hm.label e).1
  · have : n ≠ h := fun e => hn (by rw [e])
    simp [this]
  · have := (hm.label e).2.1; omega
  · rcases hv with ⟨rfl, rfl⟩ | ⟨b, cap, xs, rfl, _, hb, hlc, hcm, hsz, hw, hc⟩
    · exact .inl ⟨by simp, rfl⟩
    · refine .inr ⟨b, cap, xs, by simp, ?_, ?_, hb, hlc, hcm, hsz, hw, fun i r j d hi hj => ?_⟩
      · rcases hn with hn | hn | ⟨b', hn, hb'⟩
        · cases hn
        · exact (hm.label hn.symm).2.1
        · simp only [Value.ownBlock, Option.some.injEq] at hn; omega
      · rcases hn with hn | hn | ⟨b', hn, hb'⟩
        · cases hn
        · have := hm.label hn.symm
          simp [this.1, this.2.2]
        · simp only [Value.ownBlock, Option.some.injEq] at hn
          subst hn
          have : ¬ b < w.heap.size := by omega
          simp [this]
      · obtain ⟨x, hx, rfl, h1⟩ := hc i r j d hi hj
        exact ⟨x, hx, .v x, h1⟩

section
variable {P : Program} {N : Nat} {w0 : World} {O0 : Nat → Nat} {ops : Array Oper} {Q : Post} {e : Env} {M : Mem} {rest : List Oper} {o : Oper} {s : S} {B : Nat}

theorem argsEq {a : Act} {O : Nat → Nat} {H : Nat → Value} {w : World} {as_ : Array Operand} {l : List S} {ys : List Value} (hs : ∀ x, x ∈ as_ → ∀ s, opS e x = some s → RepS O H w (a.eval x) s) (ha : opsS e as_.toList = some l) (hv : l.mapM (valS H 9) = some ys) : as_.toList.map a.eval = ys := by
  obtain ⟨a1, a2⟩ := opsS_rep (O := O) (H := H) (w := w) (a := a) as_.toList l ha (fun x hx s hs' => hs x (by simpa using hx) s hs')
  exact valS_list (O := O) (H := H) (w := w) (by simpa using a1) (fun i x s y hx hs hv => valS_rep 9 (a2 i x s hx hs) hv) hv

theorem run_callW {a : Act} {w : World} {fn : Nat} {g : Operand} {as_ : Array Operand} {ts : Array TypeId} {ys : List Value} (can : ∀ xs w, (callFunc fn xs).run P w = .ok (.enter fn xs) w) (ho : o.op = .call { callee := .value g, args := as_, argTypes := ts }) (hg : a.eval g = .func (.func fn) #[] #[]) (ha : as_.toList.map a.eval = ys) :
    (execOp a.eval o).run P w = .ok (.enter fn ys.toArray) w := by
  have := run_call (o := o) (xs := []) (zs := []) can a w g as_ ts ho hg ha
  simpa using this

/-- A call that writes a slice of the caller's own in place. -/
theorem OpSt.callWS {h fn k T : Nat} {g : Operand} {as_ : Array Operand} {ts : Array TypeId} {rows rows' : List (List D)} {args : Value → List Value} {res : Value} {l : List S} (hspec : DoesWS P fn args res k T rows rows')
    (ho : o.op = .call { callee := .value g, args := as_, argTypes := ts }) (hg : opS e g = some (.f fn [] [])) (ha : opsS e as_.toList = some l) (hv : ∀ H, l.mapM (valS H 9) = some (args (H h))) (hp : plainB rows = true) (hr : ∀ O H w, RepS O H w res s) :
    OpSt P B o e h (.own k T rows) (.own k T rows') s := by
  intro O H a w hB hs hm K hK
  have hg' : a.eval g = .func (.func fn) #[] #[] := valS_rep 9 (hs g (by simp [ho, Op.operands, Call.operands]) _ hg) rfl
  have hargs := argsEq (a := a) (O := O) (H := H) (w := w) (as_ := as_) (fun x hx s hs' => hs x (by simp only [ho, Op.operands, Call.operands]; simpa using .inr hx) s hs') ha (hv H)
  unfold Oper.wp
  rw [run_callW hspec.can ho hg' hargs]
  refine (hspec.run w (H h) ((hm.ownVal hp).weak (Nat.zero_le _))).mono ?_
  rintro en w' ⟨rfl, ht, hv'⟩
  have hk : Keep (some h) none O H w O H w' := ⟨fun _ _ => rfl, fun b hb hne => ht.same b hb fun e => hne h rfl (hm.label e).1, fun _ _ => rfl⟩
  refine hK w' _ hk ⟨ht.os, ht.tape, ht.output, ht.size, fun b hb => ht.same b (by omega) fun e => ?_⟩ ?_ (hr _ _ _)
  · have := (hm.label e).2.1; omega
  · rcases hv' with ⟨h0, rfl⟩ | ⟨b, cap, xs, h0, _, hb, hlc, hcm, hsz, hw, hc⟩
    · exact .inl ⟨h0, rfl⟩
    · have hl := hm.label (b := b) (by rw [h0]; rfl)
      refine .inr ⟨b, cap, xs, h0, hl.2.1, hl.1, hb, hlc, hcm, hsz, hw, fun i r j d hi hj => ?_⟩
      obtain ⟨x, hx, rfl, h1⟩ := hc i r j d hi hj
      exact ⟨x, hx, .v x, h1⟩

/-- A call that writes a slice of the caller's own and hands back another one in its place. -/
theorem TrOps.callW {h d fn k T : Nat} {g : Operand} {as_ : Array Operand} {ts : Array TypeId} {rows rows' : List (List D)} {args : Value → List Value} {res : Value → Value} {l : List S} (hspec : DoesW P fn args res k T rows rows')
    (ho : o.op = .call { callee := .value g, args := as_, argTypes := ts }) (hgd : o.guard = none) (hd : o.dst = some d) (hdN : d < N) (hg : opS e g = some (.f fn [] [])) (ha : opsS e as_.toList = some l) (hM : look M h = some (.own k T rows)) (hv : ∀ H, l.mapM (valS H 9) = some (args (H h))) (hp : plainB rows = true)
    (hr : ∀ O (H : Nat → Value) w, (H h).oneCell' = true → RepS O H w (res (H h)) s) (hn : TrOps P N w0 O0 ops Q ((d, s) :: kill h e) ((h, .own k T rows') :: killM h M) rest) : TrOps P N w0 O0 ops Q e M (o :: rest) := by
  intro O H a w hst
  have hm := hst.mem h _ hM
  refine wpList_plain hgd fun K hK => Oper.wp_false ?_ Q
  have hg' : a.eval g = .func (.func fn) #[] #[] := valS_rep 9 (hst.slotsAt #[g] g (by simp) _ hg) rfl
  have hargs := argsEq (a := a) (O := O) (H := H) (w := w) (as_ := as_) (fun x hx s hs' => hst.slotsAt as_ x hx s hs') ha (hv H)
  unfold Oper.wp
  rw [run_callW hspec.can ho hg' hargs]
  refine (hspec.run w (H h) ((hm.ownVal hp).weak (Nat.zero_le _))).mono ?_
  rintro en w' ⟨v', rfl, ht, hv', hnb⟩
  obtain ⟨O', H', h1, h2, hk, hb, hmm⟩ := callW_core hm hst.size ht hv' hnb
  have hrx := hr O' H' w' (by rw [h1]; exact h2)
  rw [h1] at hrx
  have hsz := hst.size
  refine hK _ _ (hn O' H' _ _ ⟨?_, ?_, hst.bl.trans (hb.mono (Nat.le_refl _)), fun b hb' => (hk.lab b (by omega)).trans (hst.lab b hb'), ?_, fun h' m hm' => ?_⟩)
  · rw [hd]; exact hst.df
  · rw [hd]; simp [Act.put, hst.sz]
  · rw [hd]
    refine put_slots hst.sz hdN hrx fun n s hs => ?_
    obtain ⟨s', hs', hor⟩ := look_kill hs
    obtain ⟨y, hy, hr⟩ := hst.slots n s' hs'
    rcases hor with ⟨hok, rfl⟩ | rfl
    · exact ⟨y, hy, hr.mono hk 9 (fun h he => by cases he; exact hok) (.inr (by omega))⟩
    · exact ⟨y, hy, .u y⟩
  · rcases look_cons hm' with ⟨rfl, rfl⟩ | ⟨hne, hm'⟩
    · exact hmm
    · obtain ⟨m', hm2, hor⟩ := look_killM hm'
      rcases hor with rfl | ⟨hn', rfl⟩
      · trivial
      · exact ((hst.mem h' m' hm2).kill (h := h)).mono hk (by simp; omega) (by simp; omega) 9 (fun h1 he => by cases he; exact Mo.kill_ok _ m') (.inr (by omega))

/-- What was there when the call began, but for one block. -/
def frK (Oc : Nat → Nat) (W : World) : Kr := {
  q O w _ := Keeps Oc W O w
  mono := fun O w O' w' x hk h => h.trans hk }

def RetW (Oc : Nat → Nat) (W : World) (res : Value → Value) (k T : Nat) (rows : List (List D)) : Ending → World → Prop :=
  fun en w' => ∃ v' O', en = .returned (res v') ∧ w'.os = W.os ∧ w'.tape = W.tape ∧ w'.output = W.output ∧ Keeps Oc W O' w' ∧ OwnVal 0 w' v' k T rows ∧ ∀ b, v'.ownBlock = some b → O' b = 1

theorem DoesW.of_body {f : Nat} {args : Value → List Value} {res : Value → Value} {k T : Nat} {rows rows' : List (List D)} {as_ : List S} {fn : Func} {c : Code} (hf : P.funcs[f]? = some fn) (hb : fn.body = some c) (hN : fn.ntmps = N) (hlen : as_.length ≤ N)
    (can : ∀ xs w, (callFunc f xs).run P w = .ok (.enter f xs) w) (hal : ∀ v, (args v).length = as_.length) (hrep : ∀ O (H : Nat → Value) w, (H 0).oneCell' = true → ∀ (i : Nat) (x : Value) (s : S), (args (H 0))[i]? = some x → as_[i]? = some s → RepS O H w x s)
    (hne : rows ≠ []) (hne' : rows' ≠ [])
    (h : ∀ (O0 : Nat → Nat) (Oc : Nat → Nat) (W : World), Tr P N { W with heap := #[] } O0 (entry 0 as_) [(0, .own k T rows), (1000, .fr (frK Oc W))] c (bodyPost P fn (RetW Oc W res k T rows'))) : DoesW P f args res k T rows rows' := by
  refine ⟨can, fun w v hv => ?_⟩
  have h1c : v.oneCell' = true := by rcases hv with ⟨rfl, _⟩ | ⟨b, cap, xs, rfl, _⟩ <;> rfl
  obtain ⟨Oc, hOc⟩ : ∃ Oc : Nat → Nat, Oc = fun b => if v.ownBlock = some b then 1 else 0 := ⟨_, rfl⟩
  refine (calls_of_wp hf hb (h Oc Oc w Oc (fun _ => v) _ w ⟨rfl, ?_, ⟨rfl, rfl, rfl, Nat.zero_le _, fun k hk => absurd hk (Nat.not_lt_zero k)⟩, fun b hb => absurd hb (Nat.not_lt_zero b), fun n s hs => ?_, fun n m hm => ?_⟩)).mono ?_
  · have := hal v
    simp; omega
  · obtain ⟨_, hn⟩ := look_entry as_ 0 n s hs
    simp only [Nat.sub_zero] at hn
    have hlt : n < (args v).length := by rw [hal]; exact (List.getElem?_eq_some_iff.1 hn).1
    refine ⟨(args v)[n], ?_, hrep Oc (fun _ => v) w h1c n _ s (List.getElem?_eq_getElem hlt) hn⟩
    rw [Array.getElem?_append_left (by simpa using hlt)]
    simp [hlt]
  · rcases look_cons hm with ⟨rfl, rfl⟩ | ⟨_, hm⟩
    · rcases hv with ⟨h0, rfl⟩ | ⟨b, cap, xs, h0, _, hb, hlc, hcm, hsz, hw, hc⟩
      · exact .inl ⟨h0, rfl⟩
      · refine .inr ⟨b, cap, xs, h0, Nat.zero_le _, by rw [hOc, h0]; simp [Value.ownBlock], hb, hlc, hcm, hsz, hw, fun i r j d hi hj => ?_⟩
        obtain ⟨x, hx, rfl, h1⟩ := hc i r j d hi hj
        exact ⟨x, hx, .v x, h1⟩
    · rcases look_cons hm with ⟨rfl, rfl⟩ | ⟨_, hm⟩
      · exact fun b _ h => ⟨h, rfl⟩
      · cases hm
  · rintro en w' ⟨v', O', rfl, hos, htp, hout, hk, hv', hlab⟩
    have hsz : w.heap.size ≤ w'.heap.size := by
      rcases hv with ⟨_, h0⟩ | ⟨b, cap, xs, h0, _, hb, _⟩
      · exact absurd h0 hne
      · rcases hv' with ⟨_, h0'⟩ | ⟨b', cap', xs', h0', _, hb', _⟩
        · exact absurd h0' hne'
        · have hl := (Array.getElem?_eq_some_iff.1 hb).1
          have hl' := (Array.getElem?_eq_some_iff.1 hb').1
          by_cases hlast : b = w.heap.size - 1
          · by_cases hbb : b' < w.heap.size
            · by_cases he : b' = b
              · omega
              · have h2 := (hk b' hbb (by rw [hOc]; simp only [h0, Value.ownBlock]; rw [if_neg (by simp; omega)])).1
                have h3 := hlab b' (by rw [h0']; rfl)
                omega
            · omega
          · have h2 := (hk (w.heap.size - 1) (by omega) (by rw [hOc]; simp only [h0, Value.ownBlock]; rw [if_neg (by simp; omega)])).2
            have h3 := h2.trans (Array.getElem?_eq_getElem (show w.heap.size - 1 < w.heap.size by omega))
            have := (Array.getElem?_eq_some_iff.1 h3).1
            omega
    refine ⟨v', rfl, ⟨hos, htp, hout, hsz, fun b hb hne => (hk b hb (by rw [hOc]; simp [hne])).2⟩, hv', ?_⟩
    cases hvb : v'.ownBlock with
    | none => exact .inl hvb
    | some b =>
      by_cases hlt : b < w.heap.size
      · refine .inr (.inl ?_)
        rw [hvb]
        refine (Decidable.byContradiction fun hne => ?_ : v.ownBlock = some b).symm
        have := (hk b hlt (by rw [hOc]; simp [hne])).1
        rw [hlab b hvb] at this
        cases this
      · exact .inr (.inr ⟨b, hvb, by omega⟩)

theorem At.retW {Oc : Nat → Nat} {W : World} {res : Value → Value} {k T : Nat} {rows rows' : List (List D)} {fn : Func} {rs : List ResultVar} {l : List S} (hres : fn.results.toList = rs) (hl : RetL P e M rs l) (hM : look M 0 = some (.own k T rows)) (hK : look M 1000 = some (.fr (frK Oc W))) (hp : plainB rows = true) (hr : rows = rows')
    (hv : ∀ H, valS H 9 (one l) = some (res (H 0))) : At N { W with heap := #[] } O0 e M .ret (bodyPost P fn (RetW Oc W res k T rows')) := by
  subst hr
  intro O H a w hst
  obtain ⟨vs, h1, h2, h3⟩ := hl.run hst
  have hrun : (results fn a.tmps).run P w = .ok (if h : vs.toArray.size = 1 then vs.toArray[0] else .tuple vs.toArray) w := by
    rw [results_rv, Array.mapM_eq_mapM_toList, hres]
    simp only [Sem.run_bind, Sem.run_map, h1, Result.andThen_ok, Sem.run_pure]
  have hrep : RepS O H w (if h : vs.toArray.size = 1 then vs.toArray[0] else .tuple vs.toArray) (one l) := by
    clear hrun hv hl h1
    cases l with
    | nil =>
      cases vs with
      | nil => simpa [one] using RepS.t (O := O) (H := H) (w := w) [] [] rfl h3
      | cons v vs => simp at h2
    | cons s l =>
      cases vs with
      | nil => simp at h2
      | cons v vs =>
        cases l with
        | nil =>
          cases vs with
          | nil => simpa [one] using h3 0 v s rfl rfl
          | cons v2 vs => simp at h2
        | cons s2 l =>
          cases vs with
          | nil => simp at h2
          | cons v2 vs => simpa [one] using RepS.t (O := O) (H := H) (w := w) (v :: v2 :: vs) (s :: s2 :: l) h2 h3
  have hx := valS_rep 9 hrep (hv H)
  have hm := hst.mem 0 _ hM
  refine ⟨hst.df, _, hrun, H 0, O, by rw [hx], hst.bl.os, hst.bl.tape, hst.bl.output, hst.mem 1000 _ hK, (hm.ownVal hp).weak (Nat.zero_le _), fun b hb => (hm.label hb).1⟩
end
end Go.Eng
end

section
/- The engine, part 19: a region whose order is open, where one operation may come late. -/

set_option linter.unusedSimpArgs false
set_option linter.unnecessarySimpa false
set_option linter.unusedVariables false
namespace Go.Eng
open Go.RowKit (Below)

/-- e2 is e without slot d. -/
inductive DropR (d : Nat) : Env → Env → Prop
  | nil : DropR d [] []
  | hit {n : Nat} {s : S} {e e2 : Env} (h : Nat.beq n d = true) : DropR d e e2 → DropR d ((n, s) :: e) e2
  | miss {n : Nat} {s : S} {e e2 : Env} (h : Nat.beq n d = false) : DropR d e e2 → DropR d ((n, s) :: e) ((n, s) :: e2)

section
variable {P : Program} {N : Nat} {w0 : World} {O0 : Nat → Nat} {ops : Array Oper} {Q : Post} {e0 : Env} {M0 : Mem} {hs : List Nat}

/-- As parOk, but operation f of the open part may also come just behind operation k. -/
def parOkL (ops : Array Oper) (k f : Nat) : Bool :=
  let ds : List (Option Nat) := ops.toList.map (·.dst)
  decide (f < k) && (List.range ops.size).all fun i => match ops[i]? with
    | none => false
    | some o =>
      (o.after.all fun e => !(Region.binds .any e) || decide (e.on < i)) &&
      (if i < k then
        (List.range k).all fun j => match ds.getD j none with
          | some d => (i == j || o.dst != some d) && (!((tmpsOf ops o).contains d) || (decide (j < i) && prec ops 9 i j) || (decide (i < j) && prec ops 9 j i))
          | none => true
      else (List.range i).all fun j => (i == k && j == f) || prec ops 9 i j)
/-- Slots without those of one name. -/
def dropE (d : Nat) (e : Env) : Env := e.filter fun x => !(Nat.beq x.1 d)
def dumPO : PO := ⟨0, .u, none, none, false⟩
/-- The first k operations are open; operation k follows them; operation k + 1 may come at any time. -/
def parOkE (ops : Array Oper) (k : Nat) : Bool :=
  let ds : List (Option Nat) := ops.toList.map (·.dst)
  (List.range ops.size).all fun i => match ops[i]? with
    | none => false
    | some o =>
      (o.after.all fun e => !(Region.binds .any e) || decide (e.on < i)) &&
      (if i < k || i == k + 1 then
        (List.range (k + 2)).all fun j => j == k || match ds.getD j none with
          | some d => (i == j || o.dst != some d) && (!((tmpsOf ops o).contains d) || (decide (j < i) && prec ops 9 i j) || (decide (i < j) && prec ops 9 j i))
          | none => true
      else (List.range i).all fun j => prec ops 9 i j)

end
end Go.Eng
end

section
/- The engine, part 20: small arrays of ints. The engine, part 21: structs written into a slice of the call's own; the slice cut. -/



set_option linter.unusedSimpArgs false
set_option linter.unnecessarySimpa false
set_option linter.unusedVariables false
namespace Go.Eng
open Go.RowKit (Below)

def arrOf (P : Program) (t : TypeId) (n : Nat) : Bool :=
  match P.underlying t with
  | some (.array m e) => m == n && (P.info? e).map (·.size) == some 1 && P.cellsOf e == 1 && vsz P e == some (false, 1) && (match P.underlying e with | some (.int _) => true | _ => false) && !P.eqGuardType P.depth t
  | _ => false
theorem arrOf_spec {P : Program} {t n : Nat} (h : arrOf P t n = true) : ∃ e i kk, P.underlying t = some (.array n e) ∧ P.info? e = some i ∧ i.size = 1 ∧ P.cellsOf e = 1 ∧ vsz P e = some (false, 1) ∧ P.underlying e = some (.int kk) ∧ P.eqGuardType P.depth t = false := by
  unfold arrOf at h
  cases hu : P.underlying t with
  | none => simp [hu] at h
  | some d =>
    cases d <;> simp only [hu] at h <;> try (cases h; done)
    case array m e =>
      simp only [Bool.and_eq_true, Bool.not_eq_true', beq_iff_eq] at h
      obtain ⟨⟨⟨⟨⟨h1, h2⟩, h3⟩, h4⟩, h5⟩, h6⟩ := h
      subst h1
      cases hi : P.info? e with
      | none => simp [hi] at h2
      | some i =>
        simp [hi] at h2
        cases hv : P.underlying e with
        | none => simp [hv] at h5
        | some d =>
          cases d <;> simp [hv] at h5
          exact ⟨e, i, _, rfl, hi, h2, h3, h4, hv, h6⟩

section
variable {P : Program} {B : Nat} {o : Oper} {e : Env} {M : Mem} {s : S}
theorem OpSem.buildA {t n : TypeId} {ps : Array (Nat × Operand)} {l : List (Nat × S)} {zs : List Value} {ss : List S} (ho : o.op = .build t ps) (hp : partsS e ps.toList = some l) (ht : arrOf P t n = true)
    (hz : zcells P t = some zs) (h1 : zs.all Value.oneCell' = true) (hf : fillS (fun i => some (i * 1, 1)) (zs.map fun z => .d (.v z)) l = some ss) : OpSem P B o e M (.g ss) none :=
  .value fun O H a w hs _ => by
    obtain ⟨el, i, kk, hu, hi, hi1, _⟩ := arrOf_spec ht
    obtain ⟨q1, q2⟩ := partsS_rep (O := O) (H := H) (w := w) (a := a) ps.toList l hp (fun p hp s hs' => hs p.2 (by simp only [ho, Op.operands]; simpa using ⟨p.1, by simpa using hp⟩) s hs')
    obtain ⟨cs', hcs, hrep⟩ := fill_rep (places := fun i => some (i * 1, 1)) _ l zs.toArray _ ss q1 q2 (RepC.zero zs h1) hf
    obtain ⟨z, hz1, hz2⟩ := run_zero hz w
    refine ⟨.agg cs', ?_, hrep.g⟩
    have hcs2 : Instr.fill (fun i => some (i * 1, 1)) zs.toArray (ps.toList.map fun p => (p.1, a.eval p.2)) = some cs' := hcs
    simp only [Nat.mul_one] at hcs2
    have hsz : (sizeOf el).run P w = .ok 1 w := by simp [sizeOf, typeInfo, hi, hi1]
    simp [execOp, ho, Instr.build, run_underlying hu, hz1, hz2, hsz, hcs2]

theorem run_eqA2 {t : Nat} {a b c d : Int} (ht : arrOf P t 2 = true) (w : World) (k : Nat) : (Op.equalIn (k + 2) t (.agg #[.int .i64 a, .int .i64 b]) (.agg #[.int .i64 c, .int .i64 d])).run P w = .ok (decide (a = c ∧ b = d)) w := by
  obtain ⟨el, i, kk, hu, hi, hi1, hc1, hv, he, hg⟩ := arrOf_spec ht
  rw [run_equalIn_array w (k + 1) _ _ hu hi, hc1]
  have p0 : ∀ x y : Int, (part el #[.int .i64 x, .int .i64 y] 0).run P w = .ok (.int .i64 x) w := fun x y => by simp [part, (run_isAgg hv w).1]
  have p1 : ∀ x y : Int, (part el #[.int .i64 x, .int .i64 y] 1).run P w = .ok (.int .i64 y) w := fun x y => by simp [part, (run_isAgg hv w).1]
  have hr : List.range 2 = [0, 1] := rfl
  rw [hr]
  simp only [Op.eqItems, Nat.zero_mul, Nat.one_mul, Sem.run_bind, p0, p1, Result.andThen_ok, run_equalIn_int w k el .i64 kk _ _ he, Sem.run_ite, Sem.run_pure]
  by_cases h1 : a = c
  · by_cases h2 : b = d
    · simp [h1, h2]
    · simp [h1, h2]
  · simp [h1]

theorem OpSem.neA2 {t u : Nat} {x y : Operand} {a b c d : Int} (ho : o.op = .binOp .neq t x y u) (hx : opS e x = some (.g [I a, I b])) (hy : opS e y = some (.g [I c, I d])) (ht : arrOf P t 2 = true) :
    OpSem P B o e M (.d (.v (.bool (!decide (a = c ∧ b = d))))) none :=
  .value fun O H ac w hs _ => by
    have hx' := rep_ints (xs := [a, b]) (hs x (by simp [ho, Op.operands]) _ hx)
    have hy' := rep_ints (xs := [c, d]) (hs y (by simp [ho, Op.operands]) _ hy)
    obtain ⟨el, i, kk, hu, hi, hi1, hc1, hv, he, hg⟩ := arrOf_spec ht
    refine ⟨.bool (!decide (a = c ∧ b = d)), ?_, .d _ _ (.v _)⟩
    simp only [List.map_cons, List.map_nil] at hx' hy'
    simp only [execOp, ho, hx', hy', Sem.run_bind, run_eqGuard_agg w .neq t x y _ _ hg, Result.andThen_ok, run_neq_struct, run_eqA2 ht w 9998, Sem.run_pure]
end
end Go.Eng

set_option linter.unusedSimpArgs false
set_option linter.unnecessarySimpa false
set_option linter.unusedVariables false
namespace Go.Eng
open Go.RowKit (Below)

section
variable {P : Program} {N : Nat} {w0 : World} {O0 : Nat → Nat} {ops : Array Oper} {Q : Post} {e : Env} {M : Mem} {rest : List Oper} {o : Oper} {s : S} {B : Nat}

theorem OpSt.storeqN {t : TypeId} {x y : Operand} {g : Bool} {h k T i : Nat} {rows : List (List D)} {r' : List D} (ho : o.op = .store t x y) (hx : opS e x = some (.q h k i 0)) (hy : opS e y = some s) (hs : s.cells = some (r'.map .d))
    (ht : vsz P t = some (g, k)) (hi : i < rows.length) (hrk : r'.length = k) : OpSt P B o e h (.own k T rows) (.own k T (rows.take i ++ [r'] ++ rows.drop (i + 1))) .u := by
  intro O H a w hBw hsl hm K hK
  have hr := hsl x (by simp [ho, Op.operands]) _ hx
  have hv := hsl y (by simp [ho, Op.operands]) _ hy
  obtain ⟨v1, v2⟩ := hv.cells hs
  simp only [List.length_map] at v1
  generalize hxa : a.eval x = xa at hr
  cases hr with
  | q h b k i j len cap' hH' =>
    rcases hm with ⟨h0, _⟩ | ⟨b', cap, xs, hH, hB, hO, hb, hlc, hcm, hsz, hw, hc⟩
    · rw [h0] at hH'; cases hH'
    · rw [hH] at hH'
      simp only [Value.slice.injEq, Option.some.injEq, Addr.mk.injEq, and_true] at hH'
      obtain ⟨rfl, _, _⟩ := hH'
      have h1 : ∀ z, z ∈ (a.eval y).cells.toList → z.oneCell' = true := by
        intro z hz
        obtain ⟨i, hi⟩ := List.getElem?_of_mem hz
        have hlt : i < r'.length := by rw [← v1]; have := (List.getElem?_eq_some_iff.1 hi).1; simpa using this
        obtain ⟨z', hz', _, ho'⟩ := v2 i (.d r'[i]) (by rw [List.getElem?_map, List.getElem?_eq_getElem hlt]; rfl)
        have : z = z' := by simpa [hz'] using hi.symm
        rw [this]; exact ho'
      have hvl : (a.eval y).cells.toList.length = ([r'] : List (List D)).length * k := by simp [v1, hrk]
      obtain ⟨c1, c2, c3⟩ := MHold.setCells (new := [r']) (vs := (a.eval y).cells.toList) (lo := i) hH hB hO hb hlc hcm hsz hw hc (by simp; omega) hvl (fun r hr => by simp at hr; rw [hr]; exact hrk) (fun i' r j d hi' hj => by
        have : i' = 0 := by have := (List.getElem?_eq_some_iff.1 hi').1; simp at this; omega
        subst this
        simp at hi'; subst hi'
        obtain ⟨z, hz, hrz, hoz⟩ := v2 j (.d d) (by rw [List.getElem?_map, hj]; rfl)
        refine ⟨z, by simpa using hz, ?_, hoz⟩
        cases hrz with
        | d _ _ hd => exact hd) h1
      have hfit : i * k + k ≤ xs.size := by
        rw [hsz]
        have := Nat.mul_le_mul_right k (show i + 1 ≤ cap by omega)
        rw [Nat.succ_mul] at this; exact this
      have hrun := run_storeVar ht (off := i * k) (v := a.eval y) hb (by rw [v1, hrk]) hfit h1
      unfold Oper.wp
      have e0 : i * k + 0 = i * k := rfl
      simp only [execOp, ho, hxa, e0, Instr.storeAt, Instr.sureAddr, Sem.run_bind, Sem.run_pure, Result.andThen_ok, hrun, Oper.upon_skip]
      have hl : (a.eval y).cells.toList.length = k := by simp [v1, hrk]
      rw [hl] at c1 c2 c3
      refine hK _ _ c1 c2 ?_ (.u _)
      simpa using c3

theorem TrOps.ofSt0 {h : Nat} {m m' : Mo} (hst : OpSt P w0.heap.size o e h m m' s) (hM : look M h = some m) (hg : o.guard = none) (hd : o.dst = none)
    (hn : TrOps P N w0 O0 ops Q e ((h, m') :: M) rest) : TrOps P N w0 O0 ops Q e M (o :: rest) := by
  intro O H a w h0
  refine wpList_plain hg fun K hK => Oper.wp_false (hst O H a w h0.bl.size (h0.slotsAt _) (h0.mem h m hM) _ fun w' x h1 h2 h3 h4 => hK _ _ (hn O H _ _ ⟨?_, ?_, h0.bl.trans (h2.mono (Nat.le_refl _)), h0.lab, ?_, fun h' mm hm => ?_⟩)) _
  · rw [hd]; exact h0.df
  · rw [hd]; exact h0.sz
  · rw [hd]
    intro n s' hs'
    obtain ⟨z, hz, hr⟩ := h0.slots n s' hs'
    exact ⟨z, hz, hr.mono0 h1⟩
  · rcases look_cons hm with ⟨rfl, rfl⟩ | ⟨hne, hm⟩
    · exact h3
    · exact (h0.mem h' mm hm).mono h1 (by intro e; cases e; exact hne rfl) (by simp) 0 (fun h he => by cases he) (.inl rfl)

/-- x[:n], of which no other part is used any more. -/
theorem OpSem.cutO {t k T h : Nat} {x l : Operand} {rows : List (List D)} {kk : IntKind} {n : Int} (ho : o.op = .slice t x none (some l) none) (hx : opS e x = some (.o h)) (hM : look M h = some (.own k T rows)) (hl : opS e l = some (.d (.v (.int kk n))))
    (ht : esz P t = some k) (h0 : 0 ≤ n) (h1 : n ≤ rows.length) (h2 : 0 < rows.length) : OpSem P B o e M (.o h) (some (h, .own k T (rows.take n.toNat))) := by
  intro O H a w hB hs hms K hK
  have hx' := hs x (by simp [ho, Op.operands]) _ hx
  have hl' := hs l (by simp [ho, Op.operands]) _ hl
  obtain ⟨b, cap, xs, g1, g2, g3, g4, g5, g6, g7, g8, g9⟩ := (hms h _ hM).ownSome h2
  generalize hv : a.eval x = v at hx'
  generalize hu : a.eval l = u at hl'
  cases hl' with
  | d _ _ hl' => cases hl' with
    | v _ => cases hx' with
      | o h h1' =>
        rw [g1] at hv
        have hrun : (execOp a.eval o).run P w = .ok (.value (.slice (some ⟨b, 0, none⟩) n.toNat cap)) w := by
          have := run_slice_h (P := P) w t (some ⟨b, 0, none⟩) rows.length cap (esz_spec ht).1 kk n h0 (by omega)
          simp only [execOp, ho, hv, hu, Option.map_some, Option.map_none, Sem.run_bind, run_sliceAt_slice w t _ _ _ _ (esz_spec ht).1, this, run_sizeElem ht, Result.andThen_ok, Sem.run_pure]
          unfold sliced
          simp [Addr.add_zero']
        unfold Oper.wp
        rw [hrun]
        obtain ⟨H', hH'⟩ : ∃ H' : Nat → Value, H' = fun m => if m = h then (.slice (some ⟨b, 0, none⟩) n.toNat cap : Value) else H m := ⟨_, rfl⟩
        have hh : H' h = .slice (some ⟨b, 0, none⟩) n.toNat cap := by rw [hH']; simp
        have hk : Keep none (some h) O H w O H' w := ⟨fun _ _ => rfl, fun _ _ _ => rfl, fun m hm => by rw [hH']; simp; intro e; subst e; exact (hm rfl).elim⟩
        have hrep := RepS.o (O := O) (H := H') (w := w) h (by rw [hh]; rfl)
        rw [hh] at hrep
        refine hK O H' w _ hk (.refl _ _) hrep (fun h' m he => ?_)
        simp only [Option.some.injEq, Prod.mk.injEq] at he
        obtain ⟨rfl, rfl⟩ := he
        have hlen : (rows.take n.toNat).length = n.toNat := by simp; omega
        refine .inr ⟨b, cap, xs, by rw [hlen]; exact hh, g2, g3, g4, by rw [hlen]; omega, g6, g7, fun r hr => g8 r (List.mem_of_mem_take hr), fun i r j d hi hj => ?_⟩
        have hin : i < n.toNat := by have := (List.getElem?_eq_some_iff.1 hi).1; omega
        rw [List.getElem?_take_of_lt hin] at hi
        exact g9 i r j d hi hj
end
end Go.Eng
end

section
/- Closed facts on the types of this translation. Written by gen.py. -/




namespace Go.Proofs.Ytohlmcebphcokaa
open Go.Eng
theorem mixed : Try.prog.follows .mixedOrders = true := by kernel_rfl
theorem ar120 : arrOf Try.prog 120 2 = true := by kernel_rfl
theorem by120 : Try.prog.bytesOf 120 = 16 := by kernel_rfl
theorem by3 : Try.prog.bytesOf 3 = 8 := by kernel_rfl
theorem by93 : Try.prog.bytesOf 93 = 24 := by kernel_rfl
theorem bye22 : Try.prog.bytesOf (Try.prog.elem 22) = 8 := by kernel_rfl
theorem cv125_3 : cvk Try.prog 125 3 = some .i64 := by kernel_rfl
theorem cv3_125 : cvk Try.prog 3 125 = some .u64 := by kernel_rfl
theorem el119 : Try.prog.elem 119 = 120 := by kernel_rfl
theorem el22 : Try.prog.elem 22 = 3 := by kernel_rfl
theorem el44 : Try.prog.elem 44 = 93 := by kernel_rfl
theorem es119 : esz Try.prog 119 = some 2 := by kernel_rfl
theorem es22 : esz Try.prog 22 = some 1 := by kernel_rfl
theorem es23 : esz Try.prog 23 = some 2 := by kernel_rfl
theorem es24 : esz Try.prog 24 = some 3 := by kernel_rfl
theorem es34 : esz Try.prog 34 = some 5 := by kernel_rfl
theorem es44 : esz Try.prog 44 = some 3 := by kernel_rfl
theorem f1_29_0 : fo1 Try.prog 29 0 = some 0 := by kernel_rfl
theorem fo26_0 : fof Try.prog 26 0 = some 0 := by kernel_rfl
theorem fo26_1 : fof Try.prog 26 1 = some 1 := by kernel_rfl
theorem fo26_2 : fof Try.prog 26 2 = some 2 := by kernel_rfl
theorem fo26_3 : fof Try.prog 26 3 = some 3 := by kernel_rfl
theorem fo29_0 : fof Try.prog 29 0 = some 0 := by kernel_rfl
theorem fo29_1 : fof Try.prog 29 1 = some 1 := by kernel_rfl
theorem fo46_0 : fof Try.prog 46 0 = some 0 := by kernel_rfl
theorem fo46_1 : fof Try.prog 46 1 = some 1 := by kernel_rfl
theorem fo46_2 : fof Try.prog 46 2 = some 2 := by kernel_rfl
theorem fo46_3 : fof Try.prog 46 3 = some 3 := by kernel_rfl
theorem fo46_4 : fof Try.prog 46 4 = some 4 := by kernel_rfl
theorem fo81_0 : fof Try.prog 81 0 = some 0 := by kernel_rfl
theorem fo81_1 : fof Try.prog 81 1 = some 1 := by kernel_rfl
theorem fo81_2 : fof Try.prog 81 2 = some 2 := by kernel_rfl
theorem fo90_0 : fof Try.prog 90 0 = some 0 := by kernel_rfl
theorem fo90_1 : fof Try.prog 90 1 = some 1 := by kernel_rfl
theorem fo93_0 : fof Try.prog 93 0 = some 0 := by kernel_rfl
theorem fo93_1 : fof Try.prog 93 1 = some 1 := by kernel_rfl
theorem fo93_2 : fof Try.prog 93 2 = some 2 := by kernel_rfl
theorem io29 : intsOf Try.prog 29 2 = true := by kernel_rfl
theorem io93 : intsOf Try.prog 93 3 = true := by kernel_rfl
theorem pl26 : places Try.prog 26 = some [(0, 1), (1, 1), (2, 1), (3, 1)] := by kernel_rfl
theorem pl29 : places Try.prog 29 = some [(0, 1), (1, 1)] := by kernel_rfl
theorem pl46 : places Try.prog 46 = some [(0, 1), (1, 1), (2, 1), (3, 1), (4, 1)] := by kernel_rfl
theorem pl81 : places Try.prog 81 = some [(0, 1), (1, 1), (2, 1)] := by kernel_rfl
theorem pl90 : places Try.prog 90 = some [(0, 1), (1, 1)] := by kernel_rfl
theorem pl93 : places Try.prog 93 = some [(0, 1), (1, 1), (2, 1)] := by kernel_rfl
theorem vs120 : vsz Try.prog 120 = some (true, 2) := by kernel_rfl
theorem vs22 : vsz Try.prog 22 = some (false, 1) := by kernel_rfl
theorem vs23 : vsz Try.prog 23 = some (false, 1) := by kernel_rfl
theorem vs24 : vsz Try.prog 24 = some (false, 1) := by kernel_rfl
theorem vs26 : vsz Try.prog 26 = some (true, 4) := by kernel_rfl
theorem vs29 : vsz Try.prog 29 = some (true, 2) := by kernel_rfl
theorem vs3 : vsz Try.prog 3 = some (false, 1) := by kernel_rfl
theorem vs44 : vsz Try.prog 44 = some (false, 1) := by kernel_rfl
theorem vs46 : vsz Try.prog 46 = some (true, 5) := by kernel_rfl
theorem vs81 : vsz Try.prog 81 = some (true, 3) := by kernel_rfl
theorem vs90 : vsz Try.prog 90 = some (true, 2) := by kernel_rfl
theorem vs93 : vsz Try.prog 93 = some (true, 3) := by kernel_rfl
theorem zc120 : zcells Try.prog 120 = some [.int .i64 0, .int .i64 0] := by kernel_rfl
theorem zc26 : zcells Try.prog 26 = some [.slice none 0 0, .slice none 0 0, .slice none 0 0, .slice none 0 0] := by kernel_rfl
theorem zc29 : zcells Try.prog 29 = some [.int .i64 0, .int .i64 0] := by kernel_rfl
theorem zc3 : zcells Try.prog 3 = some [.int .i64 0] := by kernel_rfl
theorem zc46 : zcells Try.prog 46 = some [.int .i64 0, .int .i64 0, .slice none 0 0, .int .i64 0, .slice none 0 0] := by kernel_rfl
theorem zc81 : zcells Try.prog 81 = some [.slice none 0 0, .slice none 0 0, .int .i64 0] := by kernel_rfl
theorem zc90 : zcells Try.prog 90 = some [.int .i64 0, .int .i64 0] := by kernel_rfl
theorem zc93 : zcells Try.prog 93 = some [.int .i64 0, .int .i64 0, .int .i64 0] := by kernel_rfl
theorem ze119 : zcells Try.prog (Try.prog.elem 119) = some [.int .i64 0, .int .i64 0] := by kernel_rfl
theorem ze22 : zcells Try.prog (Try.prog.elem 22) = some [.int .i64 0] := by kernel_rfl
theorem ze23 : zcells Try.prog (Try.prog.elem 23) = some [.int .i64 0, .int .i64 0] := by kernel_rfl
theorem ze24 : zcells Try.prog (Try.prog.elem 24) = some [.slice none 0 0, .slice none 0 0, .int .i64 0] := by kernel_rfl
theorem ze34 : zcells Try.prog (Try.prog.elem 34) = some [.int .i64 0, .int .i64 0, .slice none 0 0, .int .i64 0, .slice none 0 0] := by kernel_rfl
theorem ze44 : zcells Try.prog (Try.prog.elem 44) = some [.int .i64 0, .int .i64 0, .int .i64 0] := by kernel_rfl
end Go.Proofs.Ytohlmcebphcokaa
end
