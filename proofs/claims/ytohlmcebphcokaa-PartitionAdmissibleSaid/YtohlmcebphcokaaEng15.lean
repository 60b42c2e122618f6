/- The engine, part 15: windows of a slice of the call's own, copy; other kinds of numbers. -/
import Derived.Test.YtohlmcebphcokaaEng14
import Derived.Laws.CopyRow
import Derived.IntWalk
set_option linter.unusedSimpArgs false
set_option linter.unnecessarySimpa false
set_option linter.unusedVariables false
namespace Go.Eng
open Go.RowKit (Below)

section
variable {P : Program} {B : Nat} {o : Oper} {e : Env} {M : Mem} {s : S}
/-- The value of a slice of the call's own that is not empty. -/
theorem MHold.ownSome {O : Nat → Nat} {H : Nat → Value} {w : World} {h k T : Nat} {rows : List (List D)} (hm : MHold O H B w h (.own k T rows)) (hr : 0 < rows.length) :
    ∃ (b cap : Nat) (xs : Array Value), H h = .slice (some ⟨b, 0, none⟩) rows.length cap ∧ B ≤ b ∧ O b = h + 1 ∧
      w.heap[b]? = some (.cells xs T (0, 0)) ∧ rows.length ≤ cap ∧ cap ≤ maxLen ∧ xs.size = cap * k ∧ (∀ r, r ∈ rows → r.length = k) ∧
      ∀ (i : Nat) (r : List D) (j : Nat) (d : D), rows[i]? = some r → r[j]? = some d → ∃ x, xs[i * k + j]? = some x ∧ RepD O w x d ∧ x.oneCell' = true := by
  rcases hm with ⟨_, h1⟩ | h1
  · rw [h1] at hr; simp at hr
  · exact h1
/-- x[lo:], x of the call's own. -/
theorem OpSem.sliceoL {t k T h : Nat} {x l : Operand} {rows : List (List D)} {kk : IntKind} {n : Int} (ho : o.op = .slice t x (some l) none none) (hx : opS e x = some (.o h)) (hM : look M h = some (.own k T rows)) (hl : opS e l = some (.d (.v (.int kk n))))
    (ht : esz P t = some k) (h0 : 0 ≤ n) (h1 : n < rows.length) : OpSem P B o e M (.w h k n.toNat (rows.length - n.toNat)) none :=
  .value fun O H a w hs hms => by
    have hx' := hs x (by simp [ho, Op.operands]) _ hx
    have hl' := hs l (by simp [ho, Op.operands]) _ hl
    obtain ⟨b, cap, xs, g1, g2, g3, g4, g5, g6, g7, g8, g9⟩ := (hms h _ hM).ownSome (by omega)
    generalize hv : a.eval x = v at hx'
    generalize hu : a.eval l = u at hl'
    cases hl' with
    | d _ _ hl' => cases hl' with
      | v _ => cases hx' with
        | o h h1' =>
          rw [g1] at hv
          refine ⟨_, ?_, .w h b k n.toNat (rows.length - n.toNat) rows.length cap g1 (by omega)⟩
          have := run_slice_l (P := P) w t (some ⟨b, 0, none⟩) rows.length cap (esz_spec ht).1 kk n h0 (by omega)
          simp only [execOp, ho, hv, hu, Option.map_some, Option.map_none, Sem.run_bind, run_sliceAt_slice w t _ _ _ _ (esz_spec ht).1, this, run_sizeElem ht, Result.andThen_ok, Sem.run_pure]
          unfold sliced
          rw [if_neg (by omega)]
          simp [Addr.add_lit]
/-- x[:hi], x of the call's own. -/
theorem OpSem.sliceoH {t k T h : Nat} {x l : Operand} {rows : List (List D)} {kk : IntKind} {n : Int} (ho : o.op = .slice t x none (some l) none) (hx : opS e x = some (.o h)) (hM : look M h = some (.own k T rows)) (hl : opS e l = some (.d (.v (.int kk n))))
    (ht : esz P t = some k) (h0 : 0 ≤ n) (h1 : n ≤ rows.length) (h2 : 0 < rows.length) : OpSem P B o e M (.w h k 0 n.toNat) none :=
  .value fun O H a w hs hms => by
    have hx' := hs x (by simp [ho, Op.operands]) _ hx
    have hl' := hs l (by simp [ho, Op.operands]) _ hl
    obtain ⟨b, cap, xs, g1, g2, g3, g4, g5, g6, g7, g8, g9⟩ := (hms h _ hM).ownSome h2
    generalize hv : a.eval x = v at hx'
    generalize hu : a.eval l = u at hl'
    cases hl' with
    | d _ _ hl' => cases hl' with
      | v _ => cases hx' with
        | o h h1' =>
          rw [g1] at hv
          refine ⟨_, ?_, .w h b k 0 n.toNat rows.length cap g1 (by omega)⟩
          have := run_slice_h (P := P) w t (some ⟨b, 0, none⟩) rows.length cap (esz_spec ht).1 kk n h0 (by omega)
          simp only [execOp, ho, hv, hu, Option.map_some, Option.map_none, Sem.run_bind, run_sliceAt_slice w t _ _ _ _ (esz_spec ht).1, this, run_sizeElem ht, Result.andThen_ok, Sem.run_pure]
          unfold sliced
          rw [if_neg (by omega)]
          simp [Addr.add_lit]

/-- Cells copied into a slice of the call's own. -/
theorem copy_core {O : Nat → Nat} {H : Nat → Value} {w : World} {t1 t2 ty T h b lo len dcap cap slen scap n : Nat} {xs : Array Value} {rows src : List (List D)} {a : Addr} {cs : List Value}
    (hk : esz P t1 = some 1) (g1 : H h = .slice (some ⟨b, 0, none⟩) rows.length cap) (g2 : B ≤ b) (g3 : O b = h + 1) (g4 : w.heap[b]? = some (.cells xs T (0, 0))) (g5 : rows.length ≤ cap) (g6 : cap ≤ maxLen) (g7 : xs.size = cap * 1)
    (g8 : ∀ r, r ∈ rows → r.length = 1) (g9 : ∀ (i : Nat) (r : List D) (j : Nat) (d : D), rows[i]? = some r → r[j]? = some d → ∃ x, xs[i * 1 + j]? = some x ∧ RepD O w x d ∧ x.oneCell' = true)
    (hn : n = Nat.min slen len) (hcs : cs.length = n) (hsrcl : src.length = n) (hlen : lo + len ≤ rows.length) (hsrc : ∀ j v, cs[j]? = some v → w.cell? (a.add j) = some v)
    (hs1 : ∀ r, r ∈ src → r.length = 1) (hs2 : ∀ (i : Nat) (r : List D) (d : D), src[i]? = some r → r[0]? = some d → ∃ x, cs[i]? = some x ∧ RepD O w x d ∧ x.oneCell' = true) (hone : ∀ v, v ∈ cs → v.oneCell' = true) :
    ∃ w', (Builtin.copy_ #[t1, t2] ty #[.slice (some ⟨b, lo, none⟩) len dcap, .slice (some a) slen scap]).run P w = .ok (goInt n) w' ∧ Keep (some h) none O H w O H w' ∧ Below B w w' ∧ MHold O H B w' h (.own 1 T (rows.take lo ++ src ++ rows.drop (lo + n))) := by
  obtain ⟨e1, i, hi1, hi2⟩ := esz_spec hk
  have hmin : n ≤ len := by rw [hn]; exact Nat.min_le_right _ _
  have hrun := run_copy_row (P := P) w t1 t2 ty (P.elem t1) b lo len dcap a slen scap xs T cs e1 (by rw [hi1]; simp [hi2]) g4 (by rw [hcs, hn]) hsrc (by rw [hcs, g7]; omega) hone
  have hke := Keep.setRow (O := O) (H := H) (w := w) (cs := (xs.toList.take lo ++ cs ++ xs.toList.drop (lo + cs.length)).toArray) g3
  refine ⟨_, by rw [hrun, hcs], hke, (Below.setRow g2).mono (Nat.le_refl _), ?_⟩
  have hl' : (rows.take lo ++ src ++ rows.drop (lo + n)).length = rows.length := by simp; omega
  refine .inr ⟨b, cap, _, by rw [hl']; exact g1, g2, g3, setRow_heap w b xs _ T _ g4, by rw [hl']; exact g5, g6, by simp [hcs]; omega, fun r hr => ?_, fun i r j d hi hj => ?_⟩
  · simp only [List.mem_append] at hr
    rcases hr with (hr | hr) | hr
    · exact g8 r (List.mem_of_mem_take hr)
    · exact hs1 r hr
    · exact g8 r (List.mem_of_mem_drop hr)
  · have hrl : r.length = 1 := by
      have hr := List.mem_of_getElem? hi
      simp only [List.mem_append] at hr
      rcases hr with (hr | hr) | hr
      · exact g8 r (List.mem_of_mem_take hr)
      · exact hs1 r hr
      · exact g8 r (List.mem_of_mem_drop hr)
    have hj0 : j = 0 := by have := (List.getElem?_eq_some_iff.1 hj).1; omega
    subst hj0
    simp only [Nat.mul_one, Nat.add_zero, List.getElem?_toArray]
    by_cases h1 : i < lo
    · rw [List.append_assoc, List.getElem?_append_left (by simp; omega), List.getElem?_take_of_lt h1] at hi
      obtain ⟨x, hx, hr, ho⟩ := g9 i r 0 d hi hj
      refine ⟨x, ?_, hr.mono hke.keeps, ho⟩
      rw [List.append_assoc, List.getElem?_append_left (by simp; omega), List.getElem?_take_of_lt h1]
      simpa using hx
    · by_cases h2 : i < lo + n
      · rw [List.append_assoc, List.getElem?_append_right (by simp; omega), List.getElem?_append_left (by simp; omega)] at hi
        obtain ⟨x, hx, hr, ho⟩ := hs2 _ r d hi hj
        refine ⟨x, ?_, hr.mono hke.keeps, ho⟩
        rw [List.append_assoc, List.getElem?_append_right (by simp; omega), List.getElem?_append_left (by simp; omega)]
        simp only [List.length_take, Array.length_toList] at hx ⊢
        rw [Nat.min_eq_left (by omega)] at hx ⊢
        exact hx
      · rw [List.getElem?_append_right (by simp; omega), List.getElem?_drop] at hi
        have e1 : lo + n + (i - (List.take lo rows ++ src).length) = i := by simp; omega
        rw [e1] at hi
        obtain ⟨x, hx, hr, ho⟩ := g9 i r 0 d hi hj
        refine ⟨x, ?_, hr.mono hke.keeps, ho⟩
        rw [List.getElem?_append_right (by simp; omega), List.getElem?_drop]
        have e2 : lo + cs.length + (i - (List.take lo xs.toList ++ cs).length) = i := by simp; omega
        rw [e2]
        simpa using hx
/-- copy(x, y): data into a slice of the call's own, from its beginning. -/
theorem OpSt.copyO {t1 t2 T h : Nat} {x y : Operand} {rows src : List (List D)} (ho : o.op = .call { callee := .builtin .copy, args := #[x, y], argTypes := #[t1, t2] }) (hx : opS e x = some (.o h)) (hy : opS e y = some (.d (.s 1 src)))
    (hk : esz P t1 = some 1) (hone : ∀ r, r ∈ src → r.all D.one = true) (h1 : 0 < src.length) (h2 : src.length ≤ rows.length) :
    OpSt P B o e h (.own 1 T rows) (.own 1 T (src ++ rows.drop src.length)) (.d (.v (.int .i64 src.length))) := by
  intro O H a w hBw hsl hm K hK
  have hx' := hsl x (by simp [ho, Op.operands, Call.operands]) _ hx
  have hy' := hsl y (by simp [ho, Op.operands, Call.operands]) _ hy
  obtain ⟨b, cap, xs, g1, g2, g3, g4, g5, g6, g7, g8, g9⟩ := hm.ownSome (by omega)
  generalize hv : a.eval x = v at hx'
  generalize hu : a.eval y = u at hy'
  cases hx' with
  | o h h1' =>
    cases hy' with
    | d _ _ hy' =>
      obtain ⟨ad, c, hvv, hc, hcm⟩ := hy'.slice
      cases ad with
      | none => exact absurd (hy'.noneNil hvv) (by intro e; rw [e] at h1; simp at h1)
      | some ad =>
        subst hvv
        obtain ⟨_, vals, ⟨v1, v2, v3⟩, hcell⟩ := hy'.cellsL (by omega)
        have hmin : src.length = Nat.min src.length rows.length := (Nat.min_eq_left h2).symm
        have hval : ∀ (i : Nat) (r : List D) (d : D), src[i]? = some r → r[0]? = some d → ∃ x, vals[i]? = some x ∧ RepD O w x d ∧ x.oneCell' = true := fun i r d hi hd => by
          obtain ⟨x, hx, hr⟩ := v3 i r 0 d hi hd
          refine ⟨x, by simpa using hx, hr, hr.one' ?_⟩
          exact List.all_eq_true.1 (hone r (List.mem_of_getElem? hi)) d (List.mem_of_getElem? hd)
        have hall : ∀ z, z ∈ vals → z.oneCell' = true := fun z hz => by
          obtain ⟨i, hi⟩ := List.getElem?_of_mem hz
          have hlt : i < src.length := by have := (List.getElem?_eq_some_iff.1 hi).1; omega
          have hrl := v2 src[i] (List.getElem_mem hlt)
          obtain ⟨x, hx, _, ho⟩ := hval i src[i] (src[i][0]'(by omega)) (List.getElem?_eq_getElem hlt) (List.getElem?_eq_getElem _)
          rw [hi] at hx; cases hx; exact ho
        obtain ⟨w', hrun, hke, hbe, hmh⟩ := copy_core (P := P) (B := B) (t2 := t2) (ty := o.type) (lo := 0) (dcap := cap) (scap := c) (n := src.length) (cs := vals) (src := src) (slen := src.length) (len := rows.length) (a := ad) hk g1 g2 g3 g4 g5 g6 g7 g8 g9 hmin (by omega) rfl (by omega) hcell v2 hval hall
        have hex : (execOp a.eval o).run P w = .ok (.value (goInt src.length)) w' := by rw [g1] at hv; simp [execOp, ho, resolve, invoke, builtin, hv, hu, hrun]
        unfold Oper.wp
        rw [hex]
        refine hK w' _ hke hbe ?_ (by unfold goInt; exact .d _ _ (.v _))
        simpa using hmh
/-- copy(x, y): one window of a slice of the call's own into another one. -/
theorem OpSt.copyW {t1 t2 T h lo len lo2 len2 : Nat} {x y : Operand} {rows : List (List D)} (ho : o.op = .call { callee := .builtin .copy, args := #[x, y], argTypes := #[t1, t2] }) (hx : opS e x = some (.w h 1 lo len)) (hy : opS e y = some (.w h 1 lo2 len2))
    (hk : esz P t1 = some 1) (h1 : lo + len ≤ rows.length) (h2 : lo2 + len2 ≤ rows.length) (h3 : 0 < rows.length) :
    OpSt P B o e h (.own 1 T rows) (.own 1 T (rows.take lo ++ (rows.drop lo2).take (min len2 len) ++ rows.drop (lo + min len2 len))) (.d (.v (.int .i64 (min len2 len : Nat)))) := by
  intro O H a w hBw hsl hm K hK
  have hx' := hsl x (by simp [ho, Op.operands, Call.operands]) _ hx
  have hy' := hsl y (by simp [ho, Op.operands, Call.operands]) _ hy
  obtain ⟨b, cap, xs, g1, g2, g3, g4, g5, g6, g7, g8, g9⟩ := hm.ownSome h3
  obtain ⟨n, hn⟩ : ∃ n, n = min len2 len := ⟨_, rfl⟩
  have hn1 : n ≤ len2 := by rw [hn]; exact Nat.min_le_left _ _
  generalize hv : a.eval x = v at hx'
  generalize hu : a.eval y = u at hy'
  rw [← hn] at hK
  cases hx' with
  | w h b1 k lo len L C hH hl =>
    cases hy' with
    | w h b2 k lo2 len2 L2 C2 hH2 hl2 =>
      rw [g1] at hH hH2
      simp only [Value.slice.injEq, Option.some.injEq, Addr.mk.injEq, and_true] at hH hH2
      obtain ⟨rfl, rfl, rfl⟩ := hH
      obtain ⟨rfl, _, _⟩ := hH2
      simp only [Nat.mul_one] at hv hu
      have hsz : xs.size = cap := by simpa using g7
      have hval : ∀ (i : Nat) (r : List D) (d : D), ((rows.drop lo2).take n)[i]? = some r → r[0]? = some d → ∃ x, ((xs.toList.drop lo2).take n)[i]? = some x ∧ RepD O w x d ∧ x.oneCell' = true := fun i r d hi hd => by
        have hin : i < n := by have := (List.getElem?_eq_some_iff.1 hi).1; simp at this; omega
        rw [List.getElem?_take_of_lt hin, List.getElem?_drop] at hi
        obtain ⟨x, hx, hr, ho⟩ := g9 (lo2 + i) r 0 d hi hd
        refine ⟨x, ?_, hr, ho⟩
        rw [List.getElem?_take_of_lt hin, List.getElem?_drop]
        simpa using hx
      have hl1 : ((rows.drop lo2).take n).length = n := by simp; omega
      have hl3 : ((xs.toList.drop lo2).take n).length = n := by simp; omega
      have hs1 : ∀ r, r ∈ (rows.drop lo2).take n → r.length = 1 := fun r hr => g8 r (List.mem_of_mem_drop (List.mem_of_mem_take hr))
      have hall : ∀ z, z ∈ (xs.toList.drop lo2).take n → z.oneCell' = true := fun z hz => by
        obtain ⟨i, hi⟩ := List.getElem?_of_mem hz
        have hlt : i < ((rows.drop lo2).take n).length := by rw [hl1, ← hl3]; exact (List.getElem?_eq_some_iff.1 hi).1
        have hrl := hs1 _ (List.getElem_mem hlt)
        obtain ⟨x, hx, _, ho⟩ := hval i _ (((rows.drop lo2).take n)[i][0]'(by omega)) (List.getElem?_eq_getElem hlt) (List.getElem?_eq_getElem _)
        rw [hi] at hx; cases hx; exact ho
      have hsrc : ∀ j v, ((xs.toList.drop lo2).take n)[j]? = some v → w.cell? ((⟨b, lo2, none⟩ : Addr).add j) = some v := fun j v hj => by
        have hin : j < n := by have := (List.getElem?_eq_some_iff.1 hj).1; omega
        rw [List.getElem?_take_of_lt hin, List.getElem?_drop] at hj
        rw [Addr.add_lit]
        exact cellOf g4 (by simpa using hj)
      obtain ⟨w', hrun, hke, hbe, hmh⟩ := copy_core (P := P) (B := B) (t2 := t2) (ty := o.type) (lo := lo) (dcap := cap - lo) (scap := C2 - lo2) (n := n) (cs := (xs.toList.drop lo2).take n) (src := (rows.drop lo2).take n) (slen := len2) (len := len) (a := ⟨b, lo2, none⟩) hk g1 g2 g3 g4 g5 g6 g7 g8 g9 hn hl3 hl1 h1 hsrc hs1 hval hall
      have hex : (execOp a.eval o).run P w = .ok (.value (goInt n)) w' := by simp [execOp, ho, resolve, invoke, builtin, hv, hu, hrun]
      unfold Oper.wp
      rw [hex]
      exact hK w' _ hke hbe hmh (by unfold goInt; exact .d _ _ (.v _))
end
section
variable {P : Program} {N : Nat} {w0 : World} {O0 : Nat → Nat} {ops : Array Oper} {Q : Post} {e e0 : Env} {M M0 : Mem} {hs : List Nat} {rest : List Oper} {o : Oper} {s : S} {id : Nat} {ps : List PO}
/-- An operation that writes into memory of the call's own, and yields something. -/
theorem TrOps.ofSt {h d : Nat} {m m' : Mo} (hst : OpSt P w0.heap.size o e h m m' s) (hM : look M h = some m) (hg : o.guard = none) (hd : o.dst = some d) (hdN : d < N)
    (hn : TrOps P N w0 O0 ops Q ((d, s) :: e) ((h, m') :: M) rest) : TrOps P N w0 O0 ops Q e M (o :: rest) := by
  intro O H a w h0
  refine wpList_plain hg fun K hK => Oper.wp_false (hst O H a w h0.bl.size (h0.slotsAt _) (h0.mem h m hM) _ fun w' x h1 h2 h3 h4 => hK _ _ (hn O H _ _ ⟨?_, ?_, h0.bl.trans (h2.mono (Nat.le_refl _)), h0.lab, ?_, fun h' mm hm => ?_⟩)) _
  · rw [hd]; exact h0.df
  · rw [hd]; simp [Act.put, h0.sz]
  · rw [hd]
    refine put_slots h0.sz hdN h4 fun n s' hs' => ?_
    obtain ⟨z, hz, hr⟩ := h0.slots n s' hs'
    exact ⟨z, hz, hr.mono0 h1⟩
  · rcases look_cons hm with ⟨rfl, rfl⟩ | ⟨hne, hm⟩
    · exact h3
    · exact (h0.mem h' mm hm).mono h1 (by intro e; cases e; exact hne rfl) (by simp) 0 (fun h he => by cases he) (.inl rfl)
theorem PC.ofSt {h d : Nat} {m m' : Mo} (hst : OpSt P w0.heap.size o e h m m' s) (hM : look M0 h = some m) (hg : o.guard = none) (hd : o.dst = some d)
    (hn : PC P N w0 O0 id ops Q hs e0 M0 (ps ++ [⟨d, s, none, some (h, m, m'), true⟩]) ((d, s) :: e) rest) : PC P N w0 O0 id ops Q hs e0 M0 ps e (o :: rest) := by
  intro pre hops hpw he
  subst he
  exact hn (pre ++ [o]) (by simp [hops]) (hpw.snoc ⟨hd, hg, rfl, hM, hst⟩) (by rw [finE_snoc]; rfl)
end
section
variable {P : Program} {N : Nat} {w0 : World} {O0 : Nat → Nat} {Q : Post} {e : Env} {M : Mem}
theorem St.toWin {O : Nat → Nat} {H : Nat → Value} {a : Act} {w : World} {n h k T : Nat} {rows : List (List D)} (hn : look e n = some (.o h)) (hM : look M h = some (.own k T rows)) (hr : 0 < rows.length) (hst : St N w0 O0 e M O H a w) : St N w0 O0 ((n, .w h k 0 rows.length) :: e) M O H a w := by
  refine ⟨hst.df, hst.sz, hst.bl, hst.lab, fun m s hs => ?_, hst.mem⟩
  rcases look_cons hs with ⟨rfl, rfl⟩ | ⟨_, hs⟩
  · obtain ⟨x, hx, hrep⟩ := hst.slots _ _ hn
    obtain ⟨b, cap, xs, g1, g2, g3, g4, g5, g6, g7, g8, g9⟩ := (hst.mem h _ hM).ownSome hr
    refine ⟨x, hx, ?_⟩
    cases hrep with
    | o h h1 =>
      rw [g1]
      have := RepS.w (O := O) (H := H) (w := w) h b k 0 rows.length rows.length cap g1 (by omega)
      simpa using this
  · exact hst.slots m s hs
theorem Tr.toWin {c : Code} (n : Nat) {h k T : Nat} {rows : List (List D)} (hn : look e n = some (.o h)) (hM : look M h = some (.own k T rows)) (hr : 0 < rows.length) (hc : Tr P N w0 O0 ((n, .w h k 0 rows.length) :: e) M c Q) : Tr P N w0 O0 e M c Q :=
  fun O H a w hst => hc O H a w (hst.toWin hn hM hr)
theorem St.ofWin {O : Nat → Nat} {H : Nat → Value} {a : Act} {w : World} {n h k T len : Nat} {rows : List (List D)} (hn : look e n = some (.w h k 0 len)) (hM : look M h = some (.own k T rows)) (hr : 0 < rows.length) (hl : len = rows.length) (hst : St N w0 O0 e M O H a w) : St N w0 O0 ((n, .o h) :: e) M O H a w := by
  refine ⟨hst.df, hst.sz, hst.bl, hst.lab, fun m s hs => ?_, hst.mem⟩
  rcases look_cons hs with ⟨rfl, rfl⟩ | ⟨_, hs⟩
  · obtain ⟨x, hx, hrep⟩ := hst.slots _ _ hn
    obtain ⟨b, cap, xs, g1, g2, g3, g4, g5, g6, g7, g8, g9⟩ := (hst.mem h _ hM).ownSome hr
    refine ⟨x, hx, ?_⟩
    cases hrep with
    | w h b' k lo len L C hH hl' =>
      rw [g1] at hH
      simp only [Value.slice.injEq, Option.some.injEq, Addr.mk.injEq, and_true] at hH
      obtain ⟨rfl, rfl, rfl⟩ := hH
      have := RepS.o (O := O) (H := H) (w := w) h (by rw [g1]; rfl)
      rw [g1] at this
      simpa [hl] using this
  · exact hst.slots m s hs
theorem At.ofWin {x : Exit} (n : Nat) {h k T len : Nat} {rows : List (List D)} (hn : look e n = some (.w h k 0 len)) (hM : look M h = some (.own k T rows)) (hr : 0 < rows.length) (hl : len = rows.length) (hc : At N w0 O0 ((n, .o h) :: e) M x Q) : At N w0 O0 e M x Q :=
  fun O H a w hst => hc O H a w (hst.ofWin hn hM hr hl)
theorem Tr.ofWin {c : Code} (n : Nat) {h k T len : Nat} {rows : List (List D)} (hn : look e n = some (.w h k 0 len)) (hM : look M h = some (.own k T rows)) (hr : 0 < rows.length) (hl : len = rows.length) (hc : Tr P N w0 O0 ((n, .o h) :: e) M c Q) : Tr P N w0 O0 e M c Q :=
  fun O H a w hst => hc O H a w (hst.ofWin hn hM hr hl)
end
section
variable {P : Program} {B : Nat} {o : Oper} {e : Env} {M : Mem} {s : S}
/-- A part of a window. -/
theorem OpSem.slicewL {t k h lo len : Nat} {x l : Operand} {kk : IntKind} {n : Int} (ho : o.op = .slice t x (some l) none none) (hx : opS e x = some (.w h k lo len)) (hl : opS e l = some (.d (.v (.int kk n))))
    (ht : esz P t = some k) (h0 : 0 ≤ n) (h1 : n < len) : OpSem P B o e M (.w h k (lo + n.toNat) (len - n.toNat)) none :=
  .value fun O H a w hs _ => by
    have hx' := hs x (by simp [ho, Op.operands]) _ hx
    have hl' := hs l (by simp [ho, Op.operands]) _ hl
    generalize hv : a.eval x = v at hx'
    generalize hu : a.eval l = u at hl'
    cases hl' with
    | d _ _ hl' => cases hl' with
      | v _ => cases hx' with
        | w h b k lo len L C hH hll =>
          have hw := RepS.w (O := O) (H := H) (w := w) h b k (lo + n.toNat) (len - n.toNat) L C hH (by omega)
          refine ⟨_, ?_, hw⟩
          have := run_slice_l (P := P) w t (some ⟨b, lo * k, none⟩) len (C - lo) (esz_spec ht).1 kk n h0 (by omega)
          simp only [execOp, ho, hv, hu, Option.map_some, Option.map_none, Sem.run_bind, run_sliceAt_slice w t _ _ _ _ (esz_spec ht).1, this, run_sizeElem ht, Result.andThen_ok, Sem.run_pure]
          unfold sliced
          rw [if_neg (by omega)]
          simp only [Option.map_some, Addr.add_lit, ← Nat.add_mul, Nat.sub_sub]
theorem OpSem.slicewH {t k h lo len : Nat} {x l : Operand} {kk : IntKind} {n : Int} (ho : o.op = .slice t x none (some l) none) (hx : opS e x = some (.w h k lo len)) (hl : opS e l = some (.d (.v (.int kk n))))
    (ht : esz P t = some k) (h0 : 0 ≤ n) (h1 : n ≤ len) (h2 : 0 < len) : OpSem P B o e M (.w h k lo n.toNat) none :=
  .value fun O H a w hs _ => by
    have hx' := hs x (by simp [ho, Op.operands]) _ hx
    have hl' := hs l (by simp [ho, Op.operands]) _ hl
    generalize hv : a.eval x = v at hx'
    generalize hu : a.eval l = u at hl'
    cases hl' with
    | d _ _ hl' => cases hl' with
      | v _ => cases hx' with
        | w h b k lo len L C hH hll =>
          have hw := RepS.w (O := O) (H := H) (w := w) h b k lo n.toNat L C hH (by omega)
          refine ⟨_, ?_, hw⟩
          have := run_slice_h (P := P) w t (some ⟨b, lo * k, none⟩) len (C - lo) (esz_spec ht).1 kk n h0 (by omega)
          simp only [execOp, ho, hv, hu, Option.map_some, Option.map_none, Sem.run_bind, run_sliceAt_slice w t _ _ _ _ (esz_spec ht).1, this, run_sizeElem ht, Result.andThen_ok, Sem.run_pure]
          unfold sliced
          rw [if_neg (by omega)]
          simp [Addr.add_lit]
end
/-- What is said less of an operation's outcome. -/
theorem OpSem.le {P : Program} {B : Nat} {o : Oper} {e : Env} {M : Mem} {s s' : S} {mo : Option (Nat × Mo)} (h : OpSem P B o e M s mo) (hl : Le s s') : OpSem P B o e M s' mo :=
  fun O H a w hB hs hm K hK => h O H a w hB hs hm K fun O' H' w' x h1 h2 h3 h4 => hK O' H' w' x h1 h2 (hl _ _ _ _ h3) h4
theorem OpSt.le {P : Program} {B : Nat} {o : Oper} {e : Env} {h : Nat} {m m' : Mo} {s s' : S} (hst : OpSt P B o e h m m' s) (hl : Le s s') : OpSt P B o e h m m' s' :=
  fun O H a w hB hs hm K hK => hst O H a w hB hs hm K fun w' x h1 h2 h3 h4 => hK w' x h1 h2 h3 (hl _ _ _ _ h4)
/-! ### Numbers of other kinds -/
abbrev U (n : Int) : S := .d (.v (.int .u64 n))
def cvk (P : Program) (src dst : TypeId) : Option IntKind := match P.underlying src, P.underlying dst with
  | some _, some (.int k) => some k
  | _, _ => none
theorem OpSem.conv {P : Program} {B : Nat} {o : Oper} {e : Env} {M : Mem} {src dst : TypeId} {x : Operand} {k kx : IntKind} {n : Int} (ho : o.op = .convert src dst x) (hx : opS e x = some (.d (.v (.int kx n)))) (ht : cvk P src dst = some k) (hn : k.wrap n = n) : OpSem P B o e M (.d (.v (.int k n))) none :=
  .value fun O H a w hs _ => by
    have hx' := hs x (by simp [ho, Op.operands]) _ hx
    generalize hv : a.eval x = v at hx'
    have hh : ∃ d, P.underlying src = some d ∧ P.underlying dst = some (.int k) := by
      unfold cvk at ht
      split at ht
      · rename_i d k' h1 h2; cases ht; exact ⟨d, h1, h2⟩
      · cases ht
    obtain ⟨d, h1, h2⟩ := hh
    cases hx' with
    | d _ _ hx' => cases hx' with
      | v _ =>
        refine ⟨.int k n, ?_, .d _ _ (.v _)⟩
        have : (convert src dst (.int kx n)).run P w = .ok (.int k n) w := by simp [convert, run_underlying h1, run_underlying h2, Conv.intToInt, hn]
        simp [execOp, ho, hv, this]
theorem wrap_u64 {n : Int} (h0 : 0 ≤ n) (h1 : n ≤ 18446744073709551615) : IntKind.u64.wrap n = n := IntWalk.u64_in n ⟨h0, h1⟩
theorem wrap_i64 {n : Int} (h0 : -9223372036854775808 ≤ n) (h1 : n ≤ 9223372036854775807) : IntKind.i64.wrap n = n := IntWalk.i64_in n ⟨h0, h1⟩
theorem baddu {t : TypeId} {m n : Int} (h0 : 0 ≤ m + n) (h1 : m + n ≤ 18446744073709551615) : binOp .add t (.int .u64 m) (.int .u64 n) = pure (.int .u64 (m + n)) := by
  rw [binOp_add]; simp only [Op.intArith]; rw [wrap_u64 h0 h1]
theorem bmulu {t : TypeId} {m n : Int} (h0 : 0 ≤ m * n) (h1 : m * n ≤ 18446744073709551615) : binOp .mul t (.int .u64 m) (.int .u64 n) = pure (.int .u64 (m * n)) := by
  rw [binOp_mul]; simp only [Op.intArith]; rw [wrap_u64 h0 h1]
theorem bshrK {t : TypeId} {k yk : IntKind} {m n : Int} (h0 : 0 ≤ n) (h1 : n ≤ k.bits) : binOp .shr t (.int k m) (.int yk n) = pure (.int k (m / 2 ^ n.toNat)) := by
  rw [binOp_shr]; exact shift_shr k yk m n h0 h1
theorem bgtrK {t : TypeId} {k : IntKind} {m n : Int} : binOp .gtr t (.int k m) (.int k n) = pure (.bool (decide (n < m))) := by rw [binOp_gtr]
theorem blssK {t : TypeId} {k : IntKind} {m n : Int} : binOp .lss t (.int k m) (.int k n) = pure (.bool (decide (m < n))) := by rw [binOp_lss]
/-- The low half of a number that has no other. -/
theorem bandLow {t : TypeId} {m : Int} (h0 : 0 ≤ m) (h1 : m ≤ 4294967295) : binOp .and t (.int .u64 m) (.int .u64 4294967295) = pure (.int .u64 m) := by
  rw [binOp_and, intBits_and]
  congr 2
  unfold bits
  obtain ⟨n, rfl⟩ := Int.eq_ofNat_of_zero_le h0
  have hb : (BitVec.ofInt 64 (n : Int) &&& BitVec.ofInt 64 4294967295).toNat = n := by
    have e1 : BitVec.ofInt 64 (n : Int) = BitVec.ofNat 64 n := by simp
    have e2 : BitVec.ofInt 64 4294967295 = BitVec.ofNat 64 4294967295 := by rfl
    rw [e1, e2, BitVec.toNat_and, BitVec.toNat_ofNat, BitVec.toNat_ofNat]
    have e3 : n % 2 ^ 64 = n := Nat.mod_eq_of_lt (by omega)
    have e4 : 4294967295 % 2 ^ 64 = 2 ^ 32 - 1 := by decide
    rw [e3, e4, Nat.and_two_pow_sub_one_eq_mod]
    exact Nat.mod_eq_of_lt (by omega)
  have hb' : ((BitVec.ofInt IntKind.u64.bits (n : Int) &&& BitVec.ofInt IntKind.u64.bits 4294967295).toNat : Int) = (n : Int) := congrArg Int.ofNat hb
  exact (congrArg IntKind.u64.wrap hb').trans (wrap_u64 (by omega) (by omega))
/-- Subtraction that may leave the range. -/
theorem bsubW {t : TypeId} {m n : Int} : binOp .sub t (.int .i64 m) (.int .i64 n) = pure (.int .i64 (IntKind.i64.wrap (m - n))) := by
  rw [binOp_sub]; rfl
end Go.Eng
