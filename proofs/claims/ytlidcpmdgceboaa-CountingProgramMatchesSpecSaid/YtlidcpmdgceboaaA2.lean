/- The engine and the walks that this claim uses, part 2. Written by prune.py out of our own texts. -/
import Derived.Test.YtlidcpmdgceboaaA1
import Derived.Laws.CopyRow
import Derived.IntWalk
import Derived.ChangeKeysEq
import Derived.MapKept
import Derived.WideKeyRuns
import Derived.Carry
import Derived.KernelRfl
import Derived.Test.YtlidcpmdgceboaaProg
section
/- The engine, part 15: windows of a slice of the call's own, copy; other kinds of numbers. -/



set_option linter.unusedSimpArgs false
set_option linter.unnecessarySimpa false
set_option linter.unusedVariables false
namespace Go.Eng
open Go.RowKit (Below)

section
variable {P : Program} {B : Nat} {o : Oper} {e : Env} {M : Mem} {s : S}
/-- The value of a slice of the call's own that is not empty. -/
theorem MHold.ownSome {O : Nat → Nat} {H : Nat → Value} {w : World} {h k T : Nat} {rows : List (List D)} (hm : MHold O H B w h (.own k T rows)) (hr : 0 < rows.length) :
    ∃ (b cap : Nat) (xs : Array Value), H h = .slice (some ⟨b, 0, none⟩) rows.length cap ∧ B ≤ b ∧ O b = h + 1 ∧
      w.heap[b]? = some (.cells xs T (0, 0)) ∧ rows.length ≤ cap ∧ cap ≤ maxLen ∧ xs.size = cap * k ∧ (∀ r, r ∈ rows → r.length = k) ∧
      ∀ (i : Nat) (r : List D) (j : Nat) (d : D), rows[i]? = some r → r[j]? = some d → ∃ x, xs[i * k + j]? = some x ∧ RepD O w x d ∧ x.oneCell' = true := by
  rcases hm with ⟨_, h1⟩ | h1
  · rw [h1] at hr; simp at hr
  · exact h1
/-- Cells copied into a slice of the call's own. -/
theorem copy_core {O : Nat → Nat} {H : Nat → Value} {w : World} {t1 t2 ty T h b lo len dcap cap slen scap n : Nat} {xs : Array Value} {rows src : List (List D)} {a : Addr} {cs : List Value}
    (hk : esz P t1 = some 1) (g1 : H h = .slice (some ⟨b, 0, none⟩) rows.length cap) (g2 : B ≤ b) (g3 : O b = h + 1) (g4 : w.heap[b]? = some (.cells xs T (0, 0))) (g5 : rows.length ≤ cap) (g6 : cap ≤ maxLen) (g7 : xs.size = cap * 1)
    (g8 : ∀ r, r ∈ rows → r.length = 1) (g9 : ∀ (i : Nat) (r : List D) (j : Nat) (d : D), rows[i]? = some r → r[j]? = some d → ∃ x, xs[i * 1 + j]? = some x ∧ RepD O w x d ∧ x.oneCell' = true)
    (hn : n = Nat.min slen len) (hcs : cs.length = n) (hsrcl : src.length = n) (hlen : lo + len ≤ rows.length) (hsrc : ∀ j v, cs[j]? = some v → w.cell? (a.add j) = some v)
    (hs1 : ∀ r, r ∈ src → r.length = 1) (hs2 : ∀ (i : Nat) (r : List D) (d : D), src[i]? = some r → r[0]? = some d → ∃ x, cs[i]? = some x ∧ RepD O w x d ∧ x.oneCell' = true) (hone : ∀ v, v ∈ cs → v.oneCell' = true) :
    ∃ w', (Builtin.copy_ #[t1, t2] ty #[.slice (some ⟨b, lo, none⟩) len dcap, .slice (some a) slen scap]).run P w = .ok (goInt n) w' ∧ Keep (some h) none O H w O H w' ∧ Below B w w' ∧ MHold O H B w' h (.own 1 T (rows.take lo ++ src ++ rows.drop (lo + n))) := by
  obtain ⟨e1, i, hi1, hi2⟩ := esz_spec hk
  have hmin : n ≤ len := by rw [hn]; exact Nat.min_le_right _ _
  have hrun := run_copy_row (P := P) w t1 t2 ty (P.elem t1) b lo len dcap a slen scap xs T cs e1 (by rw [hi1]; simp [hi2]) g4 (by rw [hcs, hn]) hsrc (by rw [hcs, g7]; omega) hone
  have hke := Keep.setRow (O := O) (H := H) (w := w) (cs := (xs.toList.take lo ++ cs ++ xs.toList.drop (lo + cs.length)).toArray) g3
  refine ⟨_, by rw [hrun, hcs], hke, (Below.setRow g2).mono (Nat.le_refl _), ?_⟩
  have hl' : (rows.take lo ++ src ++ rows.drop (lo + n)).length = rows.length := by simp; omega
  refine .inr ⟨b, cap, _, by rw [hl']; exact g1, g2, g3, setRow_heap w b xs _ T _ g4, by rw [hl']; exact g5, g6, by simp [hcs]; omega, fun r hr => ?_, fun i r j d hi hj => ?_⟩
  · simp only [List.mem_append] at hr
    rcases hr with (hr | hr) | hr
    · exact g8 r (List.mem_of_mem_take hr)
    · exact hs1 r hr
    · exact g8 r (List.mem_of_mem_drop hr)
  · have hrl : r.length = 1 := by
      have hr := List.mem_of_getElem? hi
      simp only [List.mem_append] at hr
      rcases hr with (hr | hr) | hr
      · exact g8 r (List.mem_of_mem_take hr)
      · exact hs1 r hr
      · exact g8 r (List.mem_of_mem_drop hr)
    have hj0 : j = 0 := by have := (List.getElem?_eq_some_iff.1 hj).1; omega
    subst hj0
    simp only [Nat.mul_one, Nat.add_zero, List.getElem?_toArray]
    by_cases h1 : i < lo
    · rw [List.append_assoc, List.getElem?_append_left (by simp; omega), List.getElem?_take_of_lt h1] at hi
      obtain ⟨x, hx, hr, ho⟩ := g9 i r 0 d hi hj
      refine ⟨x, ?_, hr.mono hke.keeps, ho⟩
      rw [List.append_assoc, List.getElem?_append_left (by simp; omega), List.getElem?_take_of_lt h1]
      simpa using hx
    · by_cases h2 : i < lo + n
      · rw [List.append_assoc, List.getElem?_append_right (by simp; omega), List.getElem?_append_left (by simp; omega)] at hi
        obtain ⟨x, hx, hr, ho⟩ := hs2 _ r d hi hj
        refine ⟨x, ?_, hr.mono hke.keeps, ho⟩
        rw [List.append_assoc, List.getElem?_append_right (by simp; omega), List.getElem?_append_left (by simp; omega)]
        simp only [List.length_take, Array.length_toList] at hx ⊢
        rw [Nat.min_eq_left (by omega)] at hx ⊢
        exact hx
      · rw [List.getElem?_append_right (by simp; omega), List.getElem?_drop] at hi
        have e1 : lo + n + (i - (List.take lo rows ++ src).length) = i := by simp; omega
        rw [e1] at hi
        obtain ⟨x, hx, hr, ho⟩ := g9 i r 0 d hi hj
        refine ⟨x, ?_, hr.mono hke.keeps, ho⟩
        rw [List.getElem?_append_right (by simp; omega), List.getElem?_drop]
        have e2 : lo + cs.length + (i - (List.take lo xs.toList ++ cs).length) = i := by simp; omega
        rw [e2]
        simpa using hx
/-- copy(x, y): data into a slice of the call's own, from its beginning. -/
theorem OpSt.copyO {t1 t2 T h : Nat} {x y : Operand} {rows src : List (List D)} (ho : o.op = .call { callee := .builtin .copy, args := #[x, y], argTypes := #[t1, t2] }) (hx : opS e x = some (.o h)) (hy : opS e y = some (.d (.s 1 src)))
    (hk : esz P t1 = some 1) (hone : ∀ r, r ∈ src → r.all D.one = true) (h1 : 0 < src.length) (h2 : src.length ≤ rows.length) :
    OpSt P B o e h (.own 1 T rows) (.own 1 T (src ++ rows.drop src.length)) (.d (.v (.int .i64 src.length))) := by
  intro O H a w hBw hsl hm K hK
  have hx' := hsl x (by simp [ho, Op.operands, Call.operands]) _ hx
  have hy' := hsl y (by simp [ho, Op.operands, Call.operands]) _ hy
  obtain ⟨b, cap, xs, g1, g2, g3, g4, g5, g6, g7, g8, g9⟩ := hm.ownSome (by omega)
  generalize hv : a.eval x = v at hx'
  generalize hu : a.eval y = u at hy'
  cases hx' with
  | o h h1' =>
    cases hy' with
    | d _ _ hy' =>
      obtain ⟨ad, c, hvv, hc, hcm⟩ := hy'.slice
      cases ad with
      | none => exact absurd (hy'.noneNil hvv) (by intro e; rw [e] at h1; simp at h1)
      | some ad =>
        subst hvv
        obtain ⟨_, vals, ⟨v1, v2, v3⟩, hcell⟩ := hy'.cellsL (by omega)
        have hmin : src.length = Nat.min src.length rows.length := (Nat.min_eq_left h2).symm
        have hval : ∀ (i : Nat) (r : List D) (d : D), src[i]? = some r → r[0]? = some d → ∃ x, vals[i]? = some x ∧ RepD O w x d ∧ x.oneCell' = true := fun i r d hi hd => by
          obtain ⟨x, hx, hr⟩ := v3 i r 0 d hi hd
          refine ⟨x, by simpa using hx, hr, hr.one' ?_⟩
          exact List.all_eq_true.1 (hone r (List.mem_of_getElem? hi)) d (List.mem_of_getElem? hd)
        have hall : ∀ z, z ∈ vals → z.oneCell' = true := fun z hz => by
          obtain ⟨i, hi⟩ := List.getElem?_of_mem hz
          have hlt : i < src.length := by have := (List.getElem?_eq_some_iff.1 hi).1; omega
          have hrl := v2 src[i] (List.getElem_mem hlt)
          obtain ⟨x, hx, _, ho⟩ := hval i src[i] (src[i][0]'(by omega)) (List.getElem?_eq_getElem hlt) (List.getElem?_eq_getElem _)
          rw [hi] at hx; cases hx; exact ho
        obtain ⟨w', hrun, hke, hbe, hmh⟩ := copy_core (P := P) (B := B) (t2 := t2) (ty := o.type) (lo := 0) (dcap := cap) (scap := c) (n := src.length) (cs := vals) (src := src) (slen := src.length) (len := rows.length) (a := ad) hk g1 g2 g3 g4 g5 g6 g7 g8 g9 hmin (by omega) rfl (by omega) hcell v2 hval hall
        have hex : (execOp a.eval o).run P w = .ok (.value (goInt src.length)) w' := by rw [g1] at hv; simp [execOp, ho, resolve, invoke, builtin, hv, hu, hrun]
        unfold Oper.wp
        rw [hex]
        refine hK w' _ hke hbe ?_ (by unfold goInt; exact .d _ _ (.v _))
        simpa using hmh
end
section
variable {P : Program} {N : Nat} {w0 : World} {O0 : Nat → Nat} {ops : Array Oper} {Q : Post} {e e0 : Env} {M M0 : Mem} {hs : List Nat} {rest : List Oper} {o : Oper} {s : S} {id : Nat} {ps : List PO}
/-- An operation that writes into memory of the call's own, and yields something. -/
theorem TrOps.ofSt {h d : Nat} {m m' : Mo} (hst : OpSt P w0.heap.size o e h m m' s) (hM : look M h = some m) (hg : o.guard = none) (hd : o.dst = some d) (hdN : d < N)
    (hn : TrOps P N w0 O0 ops Q ((d, s) :: e) ((h, m') :: M) rest) : TrOps P N w0 O0 ops Q e M (o :: rest) := by
  intro O H a w h0
  refine wpList_plain hg fun K hK => Oper.wp_false (hst O H a w h0.bl.size (h0.slotsAt _) (h0.mem h m hM) _ fun w' x h1 h2 h3 h4 => hK _ _ (hn O H _ _ ⟨?_, ?_, h0.bl.trans (h2.mono (Nat.le_refl _)), h0.lab, ?_, fun h' mm hm => ?_⟩)) _
  · rw [hd]; exact h0.df
  · rw [hd]; simp [Act.put, h0.sz]
  · rw [hd]
    refine put_slots h0.sz hdN h4 fun n s' hs' => ?_
    obtain ⟨z, hz, hr⟩ := h0.slots n s' hs'
    exact ⟨z, hz, hr.mono0 h1⟩
  · rcases look_cons hm with ⟨rfl, rfl⟩ | ⟨hne, hm⟩
    · exact h3
    · exact (h0.mem h' mm hm).mono h1 (by intro e; cases e; exact hne rfl) (by simp) 0 (fun h he => by cases he) (.inl rfl)
theorem PC.ofSt {h d : Nat} {m m' : Mo} (hst : OpSt P w0.heap.size o e h m m' s) (hM : look M0 h = some m) (hg : o.guard = none) (hd : o.dst = some d)
    (hn : PC P N w0 O0 id ops Q hs e0 M0 (ps ++ [⟨d, s, none, some (h, m, m'), true⟩]) ((d, s) :: e) rest) : PC P N w0 O0 id ops Q hs e0 M0 ps e (o :: rest) := by
  intro pre hops hpw he
  subst he
  exact hn (pre ++ [o]) (by simp [hops]) (hpw.snoc ⟨hd, hg, rfl, hM, hst⟩) (by rw [finE_snoc]; rfl)
end
section
variable {P : Program} {N : Nat} {w0 : World} {O0 : Nat → Nat} {Q : Post} {e : Env} {M : Mem}
end
section
variable {P : Program} {B : Nat} {o : Oper} {e : Env} {M : Mem} {s : S}
end
/-- What is said less of an operation's outcome. -/
theorem OpSem.le {P : Program} {B : Nat} {o : Oper} {e : Env} {M : Mem} {s s' : S} {mo : Option (Nat × Mo)} (h : OpSem P B o e M s mo) (hl : Le s s') : OpSem P B o e M s' mo :=
  fun O H a w hB hs hm K hK => h O H a w hB hs hm K fun O' H' w' x h1 h2 h3 h4 => hK O' H' w' x h1 h2 (hl _ _ _ _ h3) h4
theorem OpSt.le {P : Program} {B : Nat} {o : Oper} {e : Env} {h : Nat} {m m' : Mo} {s s' : S} (hst : OpSt P B o e h m m' s) (hl : Le s s') : OpSt P B o e h m m' s' :=
  fun O H a w hB hs hm K hK => hst O H a w hB hs hm K fun w' x h1 h2 h3 h4 => hK w' x h1 h2 h3 (hl _ _ _ _ h4)
/-! ### Numbers of other kinds -/
abbrev U (n : Int) : S := .d (.v (.int .u64 n))
def cvk (P : Program) (src dst : TypeId) : Option IntKind := match P.underlying src, P.underlying dst with
  | some _, some (.int k) => some k
  | _, _ => none
theorem OpSem.conv {P : Program} {B : Nat} {o : Oper} {e : Env} {M : Mem} {src dst : TypeId} {x : Operand} {k kx : IntKind} {n : Int} (ho : o.op = .convert src dst x) (hx : opS e x = some (.d (.v (.int kx n)))) (ht : cvk P src dst = some k) (hn : k.wrap n = n) : OpSem P B o e M (.d (.v (.int k n))) none :=
  .value fun O H a w hs _ => by
    have hx' := hs x (by simp [ho, Op.operands]) _ hx
    generalize hv : a.eval x = v at hx'
    have hh : ∃ d, P.underlying src = some d ∧ P.underlying dst = some (.int k) := by
      unfold cvk at ht
      split at ht
      · rename_i d k' h1 h2; cases ht; exact ⟨d, h1, h2⟩
      · cases ht
    obtain ⟨d, h1, h2⟩ := hh
    cases hx' with
    | d _ _ hx' => cases hx' with
      | v _ =>
        refine ⟨.int k n, ?_, .d _ _ (.v _)⟩
        have : (convert src dst (.int kx n)).run P w = .ok (.int k n) w := by simp [convert, run_underlying h1, run_underlying h2, Conv.intToInt, hn]
        simp [execOp, ho, hv, this]
theorem wrap_u64 {n : Int} (h0 : 0 ≤ n) (h1 : n ≤ 18446744073709551615) : IntKind.u64.wrap n = n := IntWalk.u64_in n ⟨h0, h1⟩
theorem wrap_i64 {n : Int} (h0 : -9223372036854775808 ≤ n) (h1 : n ≤ 9223372036854775807) : IntKind.i64.wrap n = n := IntWalk.i64_in n ⟨h0, h1⟩
theorem bshrK {t : TypeId} {k yk : IntKind} {m n : Int} (h0 : 0 ≤ n) (h1 : n ≤ k.bits) : binOp .shr t (.int k m) (.int yk n) = pure (.int k (m / 2 ^ n.toNat)) := by
  rw [binOp_shr]; exact shift_shr k yk m n h0 h1
end Go.Eng
end

section
/- The engine, part 16: variables of the call's own that are written no more; functions that have caught themselves. The engine, part 17: rows of several cells of the call's own, read, written, cleared, cut; callees that write an argument. -/

set_option linter.unusedSimpArgs false
set_option linter.unnecessarySimpa false
set_option linter.unusedVariables false
namespace Go.Eng
open Go.RowKit (Below)

/-- A pointer to a variable that holds a function which has caught this pointer, at the place of the .u of caps. -/
def selfK (F i0 : Nat) (caps : List S) : Kr := {
  q O w x := ∃ (b : Nat) (ys : List Value), x = .pointer (some ⟨b, 0, none⟩) ∧ O b = 0 ∧ w.cell? ⟨b, 0, none⟩ = some (.func (.func F) #[] ys.toArray) ∧ ys.length = caps.length ∧ ys[i0]? = some x ∧ ∀ (i : Nat) (y : Value) (s : S), ys[i]? = some y → caps[i]? = some s → RepS O zH w y s
  mono := fun O w O' w' x hk ⟨b, ys, h1, h2, h3, h4, h6, h5⟩ => ⟨b, ys, h1, (hk b (World.block_lt_of_cell? w _ h3) h2).1, hk.cell h2 h3, h4, h6, fun i y s hy hs => (h5 i y s hy hs).keeps hk⟩ }

section
variable {P : Program} {B : Nat} {o : Oper} {e : Env} {M : Mem}
end
/-- What is said, when variable h is written no more. -/
def fzb (h : Nat) (f : Nat → S) : Nat → S → S
  | 0, _ => .u
  | n + 1, s => match s with
    | .r h' k => bif Nat.beq h' h then f k else .r h' k
    | .o h' => bif Nat.beq h' h then .u else .o h'
    | .q h' a b c => bif Nat.beq h' h then .u else .q h' a b c
    | .w h' a b c => bif Nat.beq h' h then .u else .w h' a b c
    | .g cs => .g (cs.map (fzb h f n))
    | .t cs => .t (cs.map (fzb h f n))
    | .f fn fs cs => .f fn (fs.map (fzb h f n)) (cs.map (fzb h f n))
    | s => s
theorem fzb_rep {O O' : Nat → Nat} {H : Nat → Value} {w : World} {h : Nat} {f : Nat → S} (hk : Keeps O w O' w) (hf : ∀ (x : Value) (k : Nat), RepS O H w x (.r h k) → RepS O' H w x (f k)) : ∀ (n : Nat) (x : Value) (s : S), RepS O H w x s → RepS O' H w x (fzb h f n s)
  | 0, x, _, _ => .u x
  | n + 1, x, s, hr => by
    have hr' := hr
    cases hr with
    | d x y hh => exact hr'.keeps hk
    | g xs ss hl h1 hg =>
      refine .g xs _ (by simpa using hl) h1 fun i x s hx hs => ?_
      simp only [List.getElem?_map, Option.map_eq_some_iff] at hs
      obtain ⟨s', hs', rfl⟩ := hs
      exact fzb_rep hk hf n x s' (hg i x s' hx hs')
    | p => exact hr'.keeps hk
    | r h' b k hH =>
      simp only [fzb]
      cases hb : Nat.beq h' h with
      | true => have := Nat.eq_of_beq_eq_true hb; subst this; exact hf _ _ hr'
      | false => exact hr'.keeps hk
    | o h' h1 =>
      simp only [fzb]
      cases hb : Nat.beq h' h with
      | true => exact .u _
      | false => exact hr'.keeps hk
    | q h' b k i j len cap hH =>
      simp only [fzb]
      cases hb : Nat.beq h' h with
      | true => exact .u _
      | false => exact hr'.keeps hk
    | t xs ss hl hg =>
      refine .t xs _ (by simpa using hl) fun i x s hx hs => ?_
      simp only [List.getElem?_map, Option.map_eq_some_iff] at hs
      obtain ⟨s', hs', rfl⟩ := hs
      exact fzb_rep hk hf n x s' (hg i x s' hx hs')
    | f fn xs ys fs cs hl hl' hg hg' =>
      refine .f fn xs ys _ _ (by simpa using hl) (by simpa using hl') (fun i x s hx hs => ?_) (fun i x s hx hs => ?_)
      · simp only [List.getElem?_map, Option.map_eq_some_iff] at hs
        obtain ⟨s', hs', rfl⟩ := hs
        exact fzb_rep hk hf n x s' (hg i x s' hx hs')
      · simp only [List.getElem?_map, Option.map_eq_some_iff] at hs
        obtain ⟨s', hs', rfl⟩ := hs
        exact fzb_rep hk hf n x s' (hg' i x s' hx hs')
    | c => exact hr'.keeps hk
    | w h' b k lo len L C hH hl =>
      simp only [fzb]
      cases hb : Nat.beq h' h with
      | true => exact .u _
      | false => exact hr'.keeps hk
    | a => exact hr'.keeps hk
    | u => exact .u _
def Mo.fzb (h : Nat) (f : Nat → S) : Mo → Mo
  | .box cs => .box (cs.map (Go.Eng.fzb h f 9))
  | m => m
def fzbE (h : Nat) (f : Nat → S) (e : Env) : Env := e.map fun p => (p.1, fzb h f 9 p.2)
def fzbM (h : Nat) (f : Nat → S) (M : Mem) : Mem := M.map fun p => (p.1, bif Nat.beq p.1 h then .gone else p.2.fzb h f)

section
variable {P : Program} {N : Nat} {w0 : World} {O0 : Nat → Nat} {Q : Post} {e : Env} {M : Mem}
theorem St.freezeR {O : Nat → Nat} {H : Nat → Value} {a : Act} {w : World} {h : Nat} {cs : List S} {f : Nat → S} (hM : look M h = some (.box cs)) (hst : St N w0 O0 e M O H a w)
    (hf : ∀ b, H h = .pointer (some ⟨b, 0, none⟩) → w0.heap.size ≤ b → O b = h + 1 → MHold O H w0.heap.size w h (.box cs) → ∀ O', (∀ c, O' c = if c = b then 0 else O c) → ∀ (k : Nat), RepS O' H w (.pointer (some ⟨b, k, none⟩)) (f k)) :
    ∃ O', St N w0 O0 (fzbE h f e) (fzbM h f M) O' H a w := by
  have hmh := hst.mem h _ hM
  have hmh' := hmh
  obtain ⟨b, xs, T, hH, hB, hO, hb, hsz, hc⟩ := hmh
  obtain ⟨O', hO'⟩ : ∃ O' : Nat → Nat, O' = fun c => if c = b then 0 else O c := ⟨_, rfl⟩
  have hO'' : ∀ c, O' c = if c = b then 0 else O c := fun c => by rw [hO']
  have hk : Keeps O w O' w := fun c _ h0 => ⟨by rw [hO'']; split; rfl; exact h0, rfl⟩
  have hff := hf b hH hB hO hmh' O' hO''
  have hr : ∀ (n : Nat) (x : Value) (s : S), RepS O H w x s → RepS O' H w x (fzb h f n s) := fzb_rep hk fun x k hr => by
    cases hr with
    | r h' b' k hH' =>
      rw [hH] at hH'
      simp only [Value.pointer.injEq, Option.some.injEq, Addr.mk.injEq, and_true] at hH'
      subst hH'
      exact hff k
  refine ⟨O', hst.df, hst.sz, hst.bl, fun c hc' => ?_, fun n s hs => ?_, fun n m hm => ?_⟩
  · rw [hO'', if_neg (by omega)]; exact hst.lab c hc'
  · unfold fzbE at hs
    rw [look_map (fun _ v => fzb h f 9 v)] at hs
    obtain ⟨s', hs', rfl⟩ := Option.map_eq_some_iff.1 hs
    obtain ⟨x, hx, hrep⟩ := hst.slots n s' hs'
    exact ⟨x, hx, hr 9 x s' hrep⟩
  · unfold fzbM at hm
    rw [look_map (fun (k : Nat) (v : Mo) => bif Nat.beq k h then Mo.gone else Mo.fzb h f v)] at hm
    obtain ⟨m', hm', rfl⟩ := Option.map_eq_some_iff.1 hm
    cases hbq : Nat.beq n h with
    | true => simp [MHold]
    | false =>
      have hne : n ≠ h := fun e => by subst e; simp at hbq
      simp only [cond_false]
      have hold := hst.mem n m' hm'
      cases m' with
      | gone => trivial
      | fr K => exact K.mono _ _ _ _ _ hk hold
      | any K => exact K.mono _ _ _ _ _ _ _ (fun b1 hb1 hO1 => ⟨hO1.elim (fun h0 => (hk b1 hb1 h0).1.trans h0.symm) (fun h1 => by rw [hO'', if_neg (fun e => by subst e; rw [hO] at h1; omega)]), rfl⟩) hold
      | box cs' =>
        obtain ⟨b1, xs1, T1, g1, g2, g3, g4, g5, g6⟩ := hold
        refine ⟨b1, xs1, T1, g1, g2, ?_, g4, by simpa [Mo.fzb] using g5, fun i s hi => ?_⟩
        · rw [hO'', if_neg (fun e => by subst e; rw [hO] at g3; omega)]; exact g3
        · simp only [List.getElem?_map, Option.map_eq_some_iff] at hi
          obtain ⟨s', hs', rfl⟩ := hi
          obtain ⟨x, hx, hrep, ho⟩ := g6 i s' hs'
          exact ⟨x, hx, hr 9 x s' hrep, ho⟩
      | own k T1 rows =>
        rcases hold with ⟨g1, g2⟩ | ⟨b1, cap, xs1, g1, g2, g3, g4, g5, g6, g7, g8, g9⟩
        · exact .inl ⟨g1, g2⟩
        · refine .inr ⟨b1, cap, xs1, g1, g2, ?_, g4, g5, g6, g7, g8, fun i r j d hi hj => ?_⟩
          · rw [hO'', if_neg (fun e => by subst e; rw [hO] at g3; omega)]; exact g3
          · obtain ⟨x, hx, hrep, ho⟩ := g9 i r j d hi hj
            exact ⟨x, hx, hrep.mono hk, ho⟩
/-- A variable of plain data is written no more. -/
theorem Tr.freezeR {c : Code} (h : Nat) {cs : List S} {ds : List D} (hM : look M h = some (.box cs)) (hd : cs.mapM S.toD = some ds) (hc : Tr P N w0 O0 (fzbE h (fun k => .p (ds.drop k)) e) (fzbM h (fun k => .p (ds.drop k)) M) c Q) : Tr P N w0 O0 e M c Q := by
  intro O H a w hst
  obtain ⟨O', hst'⟩ := hst.freezeR (f := fun k => .p (ds.drop k)) hM (fun b hH hB hO hm O' hO' k => by
    obtain ⟨b', xs, T, hH', hB', hO2, hb, hsz, hcc⟩ := hm
    rw [hH] at hH'
    simp only [Value.pointer.injEq, Option.some.injEq, Addr.mk.injEq, and_true] at hH'
    subst hH'
    obtain ⟨m1, m2⟩ := mapM_some hd
    have hkk : Keeps O w O' w := fun c _ h0 => ⟨by rw [hO']; split; rfl; exact h0, rfl⟩
    have key : ∀ (j : Nat) (d : D), ds[j]? = some d → ∃ x, xs[j]? = some x ∧ RepD O w x d := fun j d hj => by
      have hlt : j < cs.length := by rw [← m1]; exact (List.getElem?_eq_some_iff.1 hj).1
      have h1 := m2 j _ d (List.getElem?_eq_getElem hlt) hj
      obtain ⟨x, hx, hr, _⟩ := hcc j _ (List.getElem?_eq_getElem hlt)
      generalize cs[j] = s at h1 hr
      cases s <;> simp [S.toD] at h1
      subst h1
      cases hr with
      | d _ _ q => exact ⟨x, hx, q⟩
    refine .p b k (ds.drop k) (fun j => (xs[k + j]?).getD undef) (fun j d _ => by rw [hO', if_pos rfl]) (fun j d hj => ?_) (fun j d hj => ?_)
    · rw [List.getElem?_drop] at hj
      obtain ⟨x, hx, _⟩ := key (k + j) d hj
      rw [hx]; exact cellOf hb hx
    · rw [List.getElem?_drop] at hj
      obtain ⟨x, hx, hr⟩ := key (k + j) d hj
      rw [hx]; exact hr.mono hkk)
  exact hc O' H a w hst'
end
end Go.Eng

set_option linter.unusedSimpArgs false
set_option linter.unnecessarySimpa false
set_option linter.unusedVariables false
namespace Go.Eng
open Go.RowKit (Below)

section
variable {P : Program} {B : Nat} {o : Oper} {e : Env} {M : Mem} {s : S}

end
end Go.Eng
end

section
/- The engine, part 18: callees that write an argument. -/

set_option linter.unusedSimpArgs false
set_option linter.unnecessarySimpa false
set_option linter.unusedVariables false
namespace Go.Eng
open Go.RowKit (Below)

/-- The exact value of what a slot holds, where it is known. -/
def valS (H : Nat → Value) : Nat → S → Option Value
  | 0, _ => none
  | n + 1, s => match s with
    | .d (.v x) => some x
    | .o h => some (H h)
    | .g cs => (cs.mapM (valS H n)).map fun l => .agg l.toArray
    | .t cs => (cs.mapM (valS H n)).map fun l => .tuple l.toArray
    | .f fn [] [] => some (.func (.func fn) #[] #[])
    | _ => none
theorem valS_list {O : Nat → Nat} {H : Nat → Value} {w : World} {f : S → Option Value} : ∀ {xs : List Value} {ss : List S} {ys : List Value}, xs.length = ss.length →
    (∀ (i : Nat) (x : Value) (s : S) (y : Value), xs[i]? = some x → ss[i]? = some s → f s = some y → x = y) → ss.mapM f = some ys → xs = ys := by
  intro xs ss ys hl h hm
  obtain ⟨m1, m2⟩ := mapM_some hm
  refine List.ext_getElem (by rw [hl, m1]) fun i h1 h2 => ?_
  exact h i _ _ _ (List.getElem?_eq_getElem h1) (List.getElem?_eq_getElem (by omega)) (m2 i _ _ (List.getElem?_eq_getElem (by omega)) (List.getElem?_eq_getElem h2))
theorem valS_rep {O : Nat → Nat} {H : Nat → Value} {w : World} : ∀ (n : Nat) {x y : Value} {s : S}, RepS O H w x s → valS H n s = some y → x = y
  | 0, _, _, _, _, h => by simp [valS] at h
  | n + 1, x, y, s, hr, h => by
    cases hr with
    | d x d hd =>
      cases hd with
      | v x => simpa [valS] using h
      | e => simp [valS] at h
      | s => simp [valS] at h
    | g xs ss hl h1 hg =>
      simp only [valS, Option.map_eq_some_iff] at h
      obtain ⟨l, hl', rfl⟩ := h
      rw [valS_list (O := O) (H := H) (w := w) hl (fun i x s y hx hs hv => valS_rep n (hg i x s hx hs) hv) hl']
    | t xs ss hl hg =>
      simp only [valS, Option.map_eq_some_iff] at h
      obtain ⟨l, hl', rfl⟩ := h
      rw [valS_list (O := O) (H := H) (w := w) hl (fun i x s y hx hs hv => valS_rep n (hg i x s hx hs) hv) hl']
    | o h' h1 => simpa [valS] using h
    | f fn xs ys fs cs hl hl' hx hy =>
      cases fs with
      | nil =>
        cases cs with
        | nil =>
          cases xs with
          | nil =>
            cases ys with
            | nil => simpa [valS] using h
            | cons => simp at hl'
          | cons => simp at hl
        | cons => simp [valS] at h
      | cons => simp [valS] at h
    | p => simp [valS] at h
    | r => simp [valS] at h
    | q => simp [valS] at h
    | w => simp [valS] at h
    | a => simp [valS] at h
    | c => simp [valS] at h
    | u => simp [valS] at h

/-- Only the block of a slice may have changed. -/
structure Touch (v : Value) (w w' : World) : Prop where
  os : w'.os = w.os
  tape : w'.tape = w.tape
  output : w'.output = w.output
  size : w.heap.size ≤ w'.heap.size
  same : ∀ b, b < w.heap.size → v.ownBlock ≠ some b → w'.heap[b]? = w.heap[b]?

def newBlock (v v' : Value) (w : World) : Prop := v'.ownBlock = none ∨ v'.ownBlock = v.ownBlock ∨ ∃ b, v'.ownBlock = some b ∧ w.heap.size ≤ b

/-- What a function promises that is handed a slice that it may write. -/
structure DoesW (P : Program) (f : Nat) (args : Value → List Value) (res : Value → Value) (k T : Nat) (rows rows' : List (List D)) : Prop where
  can : ∀ xs w, (callFunc f xs).run P w = .ok (.enter f xs) w
  run : ∀ (w : World) (v : Value), OwnVal 0 w v k T rows → Calls P f (args v).toArray w fun en w' => ∃ v', en = .returned (res v') ∧ Touch v w w' ∧ OwnVal 0 w' v' k T rows' ∧ newBlock v v' w
/-- .. and leaves the slice's value as it is. -/
structure DoesWS (P : Program) (f : Nat) (args : Value → List Value) (res : Value) (k T : Nat) (rows rows' : List (List D)) : Prop where
  can : ∀ xs w, (callFunc f xs).run P w = .ok (.enter f xs) w
  run : ∀ (w : World) (v : Value), OwnVal 0 w v k T rows → Calls P f (args v).toArray w fun en w' => en = .returned res ∧ Touch v w w' ∧ OwnVal 0 w' v k T rows'

def plainB (rows : List (List D)) : Bool := rows.all fun r => r.all fun d => match d with | .v _ => true | _ => false

theorem OwnVal.weak {B B' : Nat} {w : World} {x : Value} {k T : Nat} {rows : List (List D)} (h : OwnVal B w x k T rows) (hB : B' ≤ B) : OwnVal B' w x k T rows := by
  rcases h with h | ⟨b, cap, xs, h1, h2, h3⟩
  · exact .inl h
  · exact .inr ⟨b, cap, xs, h1, by omega, h3⟩
section
variable {P : Program} {N : Nat} {w0 : World} {O0 : Nat → Nat} {ops : Array Oper} {Q : Post} {e : Env} {M : Mem} {rest : List Oper} {o : Oper} {s : S} {B : Nat}

theorem argsEq {a : Act} {O : Nat → Nat} {H : Nat → Value} {w : World} {as_ : Array Operand} {l : List S} {ys : List Value} (hs : ∀ x, x ∈ as_ → ∀ s, opS e x = some s → RepS O H w (a.eval x) s) (ha : opsS e as_.toList = some l) (hv : l.mapM (valS H 9) = some ys) : as_.toList.map a.eval = ys := by
  obtain ⟨a1, a2⟩ := opsS_rep (O := O) (H := H) (w := w) (a := a) as_.toList l ha (fun x hx s hs' => hs x (by simpa using hx) s hs')
  exact valS_list (O := O) (H := H) (w := w) (by simpa using a1) (fun i x s y hx hs hv => valS_rep 9 (a2 i x s hx hs) hv) hv

theorem run_callW {a : Act} {w : World} {fn : Nat} {g : Operand} {as_ : Array Operand} {ts : Array TypeId} {ys : List Value} (can : ∀ xs w, (callFunc fn xs).run P w = .ok (.enter fn xs) w) (ho : o.op = .call { callee := .value g, args := as_, argTypes := ts }) (hg : a.eval g = .func (.func fn) #[] #[]) (ha : as_.toList.map a.eval = ys) :
    (execOp a.eval o).run P w = .ok (.enter fn ys.toArray) w := by
  have := run_call (o := o) (xs := []) (zs := []) can a w g as_ ts ho hg ha
  simpa using this

/-- What was there when the call began, but for one block. -/
def frK (Oc : Nat → Nat) (W : World) : Kr := {
  q O w _ := Keeps Oc W O w
  mono := fun O w O' w' x hk h => h.trans hk }

def RetW (Oc : Nat → Nat) (W : World) (res : Value → Value) (k T : Nat) (rows : List (List D)) : Ending → World → Prop :=
  fun en w' => ∃ v' O', en = .returned (res v') ∧ w'.os = W.os ∧ w'.tape = W.tape ∧ w'.output = W.output ∧ Keeps Oc W O' w' ∧ OwnVal 0 w' v' k T rows ∧ ∀ b, v'.ownBlock = some b → O' b = 1

theorem DoesW.of_body {f : Nat} {args : Value → List Value} {res : Value → Value} {k T : Nat} {rows rows' : List (List D)} {as_ : List S} {fn : Func} {c : Code} (hf : P.funcs[f]? = some fn) (hb : fn.body = some c) (hN : fn.ntmps = N) (hlen : as_.length ≤ N)
    (can : ∀ xs w, (callFunc f xs).run P w = .ok (.enter f xs) w) (hal : ∀ v, (args v).length = as_.length) (hrep : ∀ O (H : Nat → Value) w, (H 0).oneCell' = true → ∀ (i : Nat) (x : Value) (s : S), (args (H 0))[i]? = some x → as_[i]? = some s → RepS O H w x s)
    (hne : rows ≠ []) (hne' : rows' ≠ [])
    (h : ∀ (O0 : Nat → Nat) (Oc : Nat → Nat) (W : World), Tr P N { W with heap := #[] } O0 (entry 0 as_) [(0, .own k T rows), (1000, .fr (frK Oc W))] c (bodyPost P fn (RetW Oc W res k T rows'))) : DoesW P f args res k T rows rows' := by
  refine ⟨can, fun w v hv => ?_⟩
  have h1c : v.oneCell' = true := by rcases hv with ⟨rfl, _⟩ | ⟨b, cap, xs, rfl, _⟩ <;> rfl
  obtain ⟨Oc, hOc⟩ : ∃ Oc : Nat → Nat, Oc = fun b => if v.ownBlock = some b then 1 else 0 := ⟨_, rfl⟩
  refine (calls_of_wp hf hb (h Oc Oc w Oc (fun _ => v) _ w ⟨rfl, ?_, ⟨rfl, rfl, rfl, Nat.zero_le _, fun k hk => absurd hk (Nat.not_lt_zero k)⟩, fun b hb => absurd hb (Nat.not_lt_zero b), fun n s hs => ?_, fun n m hm => ?_⟩)).mono ?_
  · have := hal v
    simp; omega
  · obtain ⟨_, hn⟩ := look_entry as_ 0 n s hs
    simp only [Nat.sub_zero] at hn
    have hlt : n < (args v).length := by rw [hal]; exact (List.getElem?_eq_some_iff.1 hn).1
    refine ⟨(args v)[n], ?_, hrep Oc (fun _ => v) w h1c n _ s (List.getElem?_eq_getElem hlt) hn⟩
    rw [Array.getElem?_append_left (by simpa using hlt)]
    simp [hlt]
  · rcases look_cons hm with ⟨rfl, rfl⟩ | ⟨_, hm⟩
    · rcases hv with ⟨h0, rfl⟩ | ⟨b, cap, xs, h0, _, hb, hlc, hcm, hsz, hw, hc⟩
      · exact .inl ⟨h0, rfl⟩
      · refine .inr ⟨b, cap, xs, h0, Nat.zero_le _, by rw [hOc, h0]; simp [Value.ownBlock], hb, hlc, hcm, hsz, hw, fun i r j d hi hj => ?_⟩
        obtain ⟨x, hx, rfl, h1⟩ := hc i r j d hi hj
        exact ⟨x, hx, .v x, h1⟩
    · rcases look_cons hm with ⟨rfl, rfl⟩ | ⟨_, hm⟩
      · exact fun b _ h => ⟨h, rfl⟩
      · cases hm
  · rintro en w' ⟨v', O', rfl, hos, htp, hout, hk, hv', hlab⟩
    have hsz : w.heap.size ≤ w'.heap.size := by
      rcases hv with ⟨_, h0⟩ | ⟨b, cap, xs, h0, _, hb, _⟩
      · exact absurd h0 hne
      · rcases hv' with ⟨_, h0'⟩ | ⟨b', cap', xs', h0', _, hb', _⟩
        · exact absurd h0' hne'
        · have hl := (Array.getElem?_eq_some_iff.1 hb).1
          have hl' := (Array.getElem?_eq_some_iff.1 hb').1
          by_cases hlast : b = w.heap.size - 1
          · by_cases hbb : b' < w.heap.size
            · by_cases he : b' = b
              · omega
              · have h2 := (hk b' hbb (by rw [hOc]; simp only [h0, Value.ownBlock]; rw [if_neg (by simp; omega)])).1
                have h3 := hlab b' (by rw [h0']; rfl)
                omega
            · omega
          · have h2 := (hk (w.heap.size - 1) (by omega) (by rw [hOc]; simp only [h0, Value.ownBlock]; rw [if_neg (by simp; omega)])).2
            have h3 := h2.trans (Array.getElem?_eq_getElem (show w.heap.size - 1 < w.heap.size by omega))
            have := (Array.getElem?_eq_some_iff.1 h3).1
            omega
    refine ⟨v', rfl, ⟨hos, htp, hout, hsz, fun b hb hne => (hk b hb (by rw [hOc]; simp [hne])).2⟩, hv', ?_⟩
    cases hvb : v'.ownBlock with
    | none => exact .inl hvb
    | some b =>
      by_cases hlt : b < w.heap.size
      · refine .inr (.inl ?_)
        rw [hvb]
        refine (Decidable.byContradiction fun hne => ?_ : v.ownBlock = some b).symm
        have := (hk b hlt (by rw [hOc]; simp [hne])).1
        rw [hlab b hvb] at this
        cases this
      · exact .inr (.inr ⟨b, hvb, by omega⟩)

end
end Go.Eng
end

section
/- The engine, part 19: a region whose order is open, where one operation may come late. -/

set_option linter.unusedSimpArgs false
set_option linter.unnecessarySimpa false
set_option linter.unusedVariables false
namespace Go.Eng
open Go.RowKit (Below)

/-- e2 is e without slot d. -/
inductive DropR (d : Nat) : Env → Env → Prop
  | nil : DropR d [] []
  | hit {n : Nat} {s : S} {e e2 : Env} (h : Nat.beq n d = true) : DropR d e e2 → DropR d ((n, s) :: e) e2
  | miss {n : Nat} {s : S} {e e2 : Env} (h : Nat.beq n d = false) : DropR d e e2 → DropR d ((n, s) :: e) ((n, s) :: e2)

section
variable {P : Program} {N : Nat} {w0 : World} {O0 : Nat → Nat} {ops : Array Oper} {Q : Post} {e0 : Env} {M0 : Mem} {hs : List Nat}

/-- As parOk, but operation f of the open part may also come just behind operation k. -/
def parOkL (ops : Array Oper) (k f : Nat) : Bool :=
  let ds : List (Option Nat) := ops.toList.map (·.dst)
  decide (f < k) && (List.range ops.size).all fun i => match ops[i]? with
    | none => false
    | some o =>
      (o.after.all fun e => !(Region.binds .any e) || decide (e.on < i)) &&
      (if i < k then
        (List.range k).all fun j => match ds.getD j none with
          | some d => (i == j || o.dst != some d) && (!((tmpsOf ops o).contains d) || (decide (j < i) && prec ops 9 i j) || (decide (i < j) && prec ops 9 j i))
          | none => true
      else (List.range i).all fun j => (i == k && j == f) || prec ops 9 i j)
theorem parOkL_hd {ops : Array Oper} {k f : Nat} (hok : parOkL ops k f = true) : ParHd ops k := by
  intro i o hik ho
  unfold parOkL at hok
  simp only [Bool.and_eq_true, List.all_eq_true, List.mem_range] at hok
  have := hok.2 i (Array.getElem?_eq_some_iff.1 ho).1
  simp only [ho, hik, if_true, Bool.and_eq_true] at this
  exact this.2
/-- Slots without those of one name. -/
def dropE (d : Nat) (e : Env) : Env := e.filter fun x => !(Nat.beq x.1 d)
theorem look_dropE {d n : Nat} {s : S} : ∀ {e : Env}, look (dropE d e) n = some s → n ≠ d ∧ look e n = some s
  | [], h => by simp [dropE, look] at h
  | (a, b) :: e, h => by
    unfold dropE at h
    rw [List.filter_cons] at h
    split at h
    · rename_i hx
      rcases look_cons h with ⟨rfl, rfl⟩ | ⟨hne, h⟩
      · exact ⟨fun e => by subst e; simp at hx, look_cons_same _ _ _⟩
      · obtain ⟨h1, h2⟩ := look_dropE (e := e) h
        refine ⟨h1, ?_⟩
        simp only [look]
        have : Nat.beq a n = false := by cases hb : Nat.beq a n with
          | false => rfl
          | true => exact (hne (Nat.eq_of_beq_eq_true hb).symm).elim
        rw [this]; exact h2
    · rename_i hx
      obtain ⟨h1, h2⟩ := look_dropE (e := e) h
      refine ⟨h1, ?_⟩
      have ha : a = d := by simp at hx; exact hx
      simp only [look]
      have : Nat.beq a n = false := by cases hb : Nat.beq a n with
        | false => rfl
        | true => exact (h1 ((Nat.eq_of_beq_eq_true hb).symm.trans ha)).elim
      rw [this]; exact h2

/-- Every order of the open part is served, f behind k too. -/
theorem par_late {k f : Nat} {ps : List PO} {pf : PO} {ok of : Oper} (hpw : PW P w0.heap.size ops hs M0 (ops.toList.take k) ps e0) (hk : k ≤ ops.size) (hok : parOkL ops k f = true) (hh : handOk e0 M0 ps = true) (hso : stOk hs ps = true) (hN : ∀ p, p ∈ ps → p.ds = true → p.d < N)
    (hpf : ps[f]? = some pf) (hpfs : pf.st = none) (hpfm : pf.mo = none) (hpfd : pf.ds = true) (hokk : ops[k]? = some ok) (hof : ops[f]? = some of)
    (ht : TrOps P N w0 O0 ops Q (finE e0 ps) (finM M0 ps) (ops.toList.drop k)) (htl : TrOps P N w0 O0 ops Q (finE (dropE pf.d e0) (ps.eraseIdx f)) (finM M0 (ps.eraseIdx f)) (ok :: of :: ops.toList.drop (k + 1))) :
    ∀ (fuel : Nat) (L : Array Bool) (a : Act) (w : World), L.size = ops.size → (∀ i, i < ops.size → L.getD i false = false → fuel ≠ 0) → ((List.range ops.size).filter fun i => !L.getD i false).length ≤ fuel →
      (∀ i, L.getD i false = true → ∀ o, ops[i]? = some o → ∀ e, e ∈ o.after → Region.binds .any e = true → L.getD e.on false = true) →
      ((∃ O H, PSt N w0 O0 e0 hs M0 ps L O H a w ∧ ∀ i, k ≤ i → L.getD i false = false) ∨ (∃ i0, k ≤ i0 ∧ (∀ i, i < ops.size → (L.getD i false = true ↔ i < i0)) ∧ i0 ≤ ops.size ∧ wpList P ops Q (ops.toList.drop i0) a w) ∨ ((∀ i, i < ops.size → (L.getD i false = true ↔ (i < k + 1 ∧ i ≠ f))) ∧ wpList P ops Q (of :: ops.toList.drop (k + 1)) a w)) →
      wpAny P .any ops Q fuel L a w := by
  have hops : ∀ i, i < ops.size → ∃ o, ops[i]? = some o := fun i hi => ⟨ops[i], Array.getElem?_eq_getElem hi⟩
  have hfk : f < k := by unfold parOkL at hok; simp only [Bool.and_eq_true, decide_eq_true_eq] at hok; exact hok.1
  have hkn : k < ops.size := (Array.getElem?_eq_some_iff.1 hokk).1
  have hlenp : ps.length = k := by have := hpw.get.1; rw [← this]; simp; omega
  have hchk : ∀ i o, ops[i]? = some o → (∀ e, e ∈ o.after → Region.binds .any e = true → e.on < i) ∧ (k ≤ i → ∀ j, j < i → ¬ (i = k ∧ j = f) → prec ops 9 i j = true) := by
    intro i o ho
    have hi : i < ops.size := (Array.getElem?_eq_some_iff.1 ho).1
    unfold parOkL at hok
    simp only [Bool.and_eq_true, List.all_eq_true, List.mem_range] at hok
    have := hok.2 i hi
    simp only [ho, Bool.and_eq_true] at this
    obtain ⟨h1, h2⟩ := this
    refine ⟨fun e he hb => ?_, fun hki j hj hne => ?_⟩
    · have := Array.all_eq_true'.1 h1 e he
      simp only [hb, Bool.not_true, Bool.false_or, decide_eq_true_eq] at this
      exact this
    · rw [if_neg (by omega)] at h2
      have h3 := List.all_eq_true.1 h2 j (List.mem_range.2 hj)
      simp only [Bool.or_eq_true, Bool.and_eq_true, beq_iff_eq] at h3
      exact h3.resolve_left hne
  -- the open part is through: what follows goes in the order of the text
  have turn : ∀ (L : Array Bool) (a : Act) (w : World), L.size = ops.size → (∀ i, i < k → L.getD i false = true) → (∀ i, k ≤ i → L.getD i false = false) → (∃ O H, PSt N w0 O0 e0 hs M0 ps L O H a w) →
      (∀ i, i < ops.size → (L.getD i false = true ↔ i < k)) ∧ wpList P ops Q (ops.toList.drop k) a w := by
    rintro L a w hL h1 h2 ⟨O, H, hst⟩
    refine ⟨fun i hi => ⟨fun h => ?_, h1 i⟩, ht O H a w ⟨hst.df, hst.sz, hst.bl, hst.lab, fun n s hs => ?_, fun h m hm => ?_⟩⟩
    · rcases Nat.lt_or_ge i k with h' | h'
      · exact h'
      · rw [h2 i h'] at h; cases h
    · have hlen : ps.length = k := by have := hpw.get.1; rw [← this]; simp; omega
      rcases look_finE hs with ⟨i, p, hp, hps, rfl, rfl⟩ | ⟨h1', h2'⟩
      · exact hst.new i p hp hps (h1 i (by rw [← hlen]; exact (List.getElem?_eq_some_iff.1 hp).1))
      · exact hst.old n s h2' (fun j p hj hs he => absurd he (h1' p (List.mem_of_getElem? hj) hs))
    · have hlen : ps.length = k := by have := hpw.get.1; rw [← this]; simp; omega
      rcases look_finM hm with ⟨i, p, hp, hps, hmo⟩ | ⟨i, p, m0, hp, hps⟩ | ⟨hns, hm⟩
      · exact hst.mnew i p h m hp (h1 i (by rw [← hlen]; exact (List.getElem?_eq_some_iff.1 hp).1)) hps hmo
      · have := hst.sto i p h m0 m hp hps
        rwa [if_pos (h1 i (by rw [← hlen]; exact (List.getElem?_eq_some_iff.1 hp).1))] at this
      · refine hst.mold h m (look_dropM_of (fun hin => ?_) hm)
        unfold stOk at hso
        simp only [Bool.and_eq_true] at hso
        obtain ⟨p, hp, he⟩ := List.any_eq_true.1 (List.all_eq_true.1 hso.2 h hin)
        cases hps : p.st with
        | none => rw [hps] at he; cases he
        | some x =>
          obtain ⟨h', m0, m1⟩ := x
          rw [hps] at he
          exact hns p hp h' m0 m1 hps (Nat.eq_of_beq_eq_true he)
  have erase : ∀ (i : Nat) (p : PO), (ps.eraseIdx f)[i]? = some p → ∃ i', i' ≠ f ∧ i' < k ∧ ps[i']? = some p := by
    intro i p hp
    rw [List.getElem?_eraseIdx] at hp
    split at hp
    · exact ⟨i, by omega, by rw [← hlenp]; exact (List.getElem?_eq_some_iff.1 hp).1, hp⟩
    · exact ⟨i + 1, by omega, by rw [← hlenp]; exact (List.getElem?_eq_some_iff.1 hp).1, hp⟩
  have erase2 : ∀ (i : Nat) (p : PO), i ≠ f → ps[i]? = some p → p ∈ ps.eraseIdx f := by
    intro i p hne hp
    by_cases h : i < f
    · exact List.mem_of_getElem? (i := i) (by rw [List.getElem?_eraseIdx, if_pos h]; exact hp)
    · refine List.mem_of_getElem? (i := i - 1) ?_
      rw [List.getElem?_eraseIdx, if_neg (by omega)]
      have : i - 1 + 1 = i := by omega
      rw [this]; exact hp
  -- all but f are through, and operation k comes up
  have turnL : ∀ (L : Array Bool) (a : Act) (w : World), L.size = ops.size → (∀ i, i < k → i ≠ f → L.getD i false = true) → (∃ O H, PSt N w0 O0 e0 hs M0 ps L O H a w) →
      wpList P ops Q (ok :: of :: ops.toList.drop (k + 1)) a w := by
    rintro L a w hL h1 ⟨O, H, hst⟩
    refine htl O H a w ⟨hst.df, hst.sz, hst.bl, hst.lab, fun n s hs => ?_, fun h m hm => ?_⟩
    · rcases look_finE hs with ⟨i, p, hp, hps, rfl, rfl⟩ | ⟨h1', h2'⟩
      · obtain ⟨i', h3, h4, h5⟩ := erase i p hp
        exact hst.new i' p h5 hps (h1 i' h4 h3)
      · obtain ⟨h3, h4⟩ := look_dropE h2'
        refine hst.old n s h4 fun j p hj hps he => absurd he ?_
        have hp := List.mem_of_getElem? hj
        obtain ⟨i, hi⟩ := List.getElem?_of_mem hp
        by_cases hif : i = f
        · subst hif; rw [hpf] at hi; cases hi; exact fun e => h3 e.symm
        · exact h1' p (erase2 i p hif hi) hps
    · rcases look_finM hm with ⟨i, p, hp, hps, hmo⟩ | ⟨i, p, m0, hp, hps⟩ | ⟨hns, hm⟩
      · obtain ⟨i', h3, h4, h5⟩ := erase i p hp
        exact hst.mnew i' p h m h5 (h1 i' h4 h3) hps hmo
      · obtain ⟨i', h3, h4, h5⟩ := erase i p hp
        have := hst.sto i' p h m0 m h5 hps
        rwa [if_pos (h1 i' h4 h3)] at this
      · refine hst.mold h m (look_dropM_of (fun hin => ?_) hm)
        unfold stOk at hso
        simp only [Bool.and_eq_true] at hso
        obtain ⟨p, hp, he⟩ := List.any_eq_true.1 (List.all_eq_true.1 hso.2 h hin)
        cases hps : p.st with
        | none => rw [hps] at he; cases he
        | some x =>
          obtain ⟨h', m0, m1⟩ := x
          rw [hps] at he
          obtain ⟨i, hi⟩ := List.getElem?_of_mem hp
          have hif : i ≠ f := fun e => by subst e; rw [hpf] at hi; cases hi; rw [hpfs] at hps; cases hps
          exact hns p (erase2 i p hif hi) h' m0 m1 hps (Nat.eq_of_beq_eq_true he)
  have hrd : ∀ (L : Array Bool) (i : Nat), L.size = ops.size → i ∈ Region.ready .any ops L → i < ops.size ∧ L.getD i false = false ∧ ∀ o, ops[i]? = some o → ∀ e, e ∈ o.after → Region.binds .any e = true → L.getD e.on false = true := by
    intro L i hL hi
    unfold Region.ready at hi
    rw [List.mem_filter] at hi
    obtain ⟨h1, h2⟩ := hi
    rw [List.mem_range] at h1
    simp only [Bool.and_eq_true, Bool.not_eq_true'] at h2
    obtain ⟨h2, h3⟩ := h2
    refine ⟨h1, ?_, fun o ho e he hb => ?_⟩
    · simpa [Array.getD_eq_getD_getElem?, Array.getElem?_eq_getElem (by omega : i < L.size)] using h2
    · simp only [ho, Option.map_some, Option.getD_some] at h3
      have := Array.all_eq_true'.1 h3 e he
      simpa [hb] using this
  have hnone : ∀ (L : Array Bool), L.size = ops.size → Region.ready .any ops L = [] → ∀ i, i < ops.size → L.getD i false = true := by
    intro L hL hr i
    induction i using Nat.strongRecOn with
    | _ i ih =>
      intro hi
      cases hl : L.getD i false with
      | true => rfl
      | false =>
        exfalso
        obtain ⟨o, ho⟩ := hops i hi
        have : i ∈ Region.ready .any ops L := by
          unfold Region.ready
          rw [List.mem_filter]
          refine ⟨List.mem_range.2 hi, ?_⟩
          simp only [Bool.and_eq_true, Bool.not_eq_true']
          refine ⟨by simpa [Array.getD_eq_getD_getElem?, Array.getElem?_eq_getElem (by omega : i < L.size)] using hl, ?_⟩
          simp only [ho, Option.map_some, Option.getD_some, Array.all_eq_true', Bool.or_eq_true, Bool.not_eq_true']
          intro e he
          by_cases hb : Region.binds .any e = true
          · exact .inr (ih e.on ((hchk i o ho).1 e he hb) (by have := (hchk i o ho).1 e he hb; omega))
          · exact .inl (by simpa using hb)
        rw [hr] at this; cases this
  have hcl' : ∀ (L : Array Bool) (i : Nat), L.size = ops.size → i < ops.size → (∀ i, L.getD i false = true → ∀ o, ops[i]? = some o → ∀ e, e ∈ o.after → Region.binds .any e = true → L.getD e.on false = true) → (∀ o, ops[i]? = some o → ∀ e, e ∈ o.after → Region.binds .any e = true → L.getD e.on false = true) →
      ∀ j, (L.setIfInBounds i true).getD j false = true → ∀ o, ops[j]? = some o → ∀ e, e ∈ o.after → Region.binds .any e = true → (L.setIfInBounds i true).getD e.on false = true := by
    intro L i hL hi hcl hr j hj o ho e he hb
    rw [getD_set (by omega)] at hj ⊢
    split
    · rfl
    · by_cases hji : j = i
      · subst hji; exact hr o ho e he hb
      · rw [if_neg hji] at hj; exact hcl j hj o ho e he hb
  have hcount : ∀ (L : Array Bool) (i n : Nat), L.size = ops.size → i < ops.size → L.getD i false = false → ((List.range ops.size).filter fun i => !L.getD i false).length ≤ n + 1 → ((List.range ops.size).filter fun j => !(L.setIfInBounds i true).getD j false).length ≤ n := by
    intro L i n hL hi hl hc
    have : ((List.range ops.size).filter fun j => !(L.setIfInBounds i true).getD j false) = ((List.range ops.size).filter fun j => !L.getD j false).filter (fun j => j != i) := by
      rw [List.filter_filter]
      apply List.filter_congr
      intro j _
      rw [getD_set (by omega)]
      by_cases h : j = i <;> simp [h]
    rw [this]
    have hlt : (((List.range ops.size).filter fun j => !L.getD j false).filter (fun j => j != i)).length < ((List.range ops.size).filter fun j => !L.getD j false).length := by
      rw [List.length_filter_lt_length_iff_exists]
      exact ⟨i, List.mem_filter.2 ⟨List.mem_range.2 hi, by rw [hl]; rfl⟩, by simp⟩
    omega
  intro fuel
  induction fuel with
  | zero =>
    intro L a w hL hf hc hcl hJ
    have hall : ∀ i, i < ops.size → L.getD i false = true := fun i hi => by
      cases hl : L.getD i false with
      | true => rfl
      | false => exact absurd rfl (hf i hi hl)
    refine ⟨?_, ?_⟩
    · rw [List.eq_nil_iff_forall_not_mem]
      intro i hi
      obtain ⟨h1, h2, _⟩ := hrd L i hL hi
      rw [hall i h1] at h2; cases h2
    · rcases hJ with ⟨O, H, hst, htail⟩ | ⟨i0, h1, h2, h3, h4⟩ | ⟨h3, _⟩
      · have := htail k (Nat.le_refl _); rw [hall k hkn] at this; cases this
      · have : i0 = ops.size := by
          rcases Nat.lt_or_ge i0 ops.size with h | h
          · have := (h2 i0 h).1 (hall i0 h); omega
          · omega
        rw [List.drop_eq_nil_of_le (by simp; omega)] at h4
        exact h4
      · exact absurd rfl ((h3 f (by omega)).1 (hall f (by omega))).2
  | succ fuel ih =>
    intro L a w hL hf hc hcl hJ
    have next : ∀ (i : Nat) (a' : Act) (w' : World), i < ops.size → L.getD i false = false → (∀ o, ops[i]? = some o → ∀ e, e ∈ o.after → Region.binds .any e = true → L.getD e.on false = true) →
        ((∃ O H, PSt N w0 O0 e0 hs M0 ps (L.setIfInBounds i true) O H a' w' ∧ ∀ j, k ≤ j → (L.setIfInBounds i true).getD j false = false) ∨ (∃ i0, k ≤ i0 ∧ (∀ j, j < ops.size → ((L.setIfInBounds i true).getD j false = true ↔ j < i0)) ∧ i0 ≤ ops.size ∧ wpList P ops Q (ops.toList.drop i0) a' w') ∨ ((∀ j, j < ops.size → ((L.setIfInBounds i true).getD j false = true ↔ (j < k + 1 ∧ j ≠ f))) ∧ wpList P ops Q (of :: ops.toList.drop (k + 1)) a' w')) →
        wpAny P .any ops Q fuel (L.setIfInBounds i true) a' w' := by
      intro i a' w' hi hl hr hJ'
      have hcc := hcount L i fuel hL hi hl hc
      refine ih _ a' w' (by simpa using hL) (fun j hj hlj h0 => ?_) hcc (hcl' L i hL hi hcl hr) hJ'
      subst h0
      have : ((List.range ops.size).filter fun j => !(L.setIfInBounds i true).getD j false) = [] := List.eq_nil_of_length_eq_zero (by omega)
      have hm : j ∈ ((List.range ops.size).filter fun j => !(L.setIfInBounds i true).getD j false) := List.mem_filter.2 ⟨List.mem_range.2 hj, by rw [hlj]; rfl⟩
      rw [this] at hm; cases hm
    -- the tail
    have tail : ∀ (i0 : Nat), k ≤ i0 → (∀ i, i < ops.size → (L.getD i false = true ↔ i < i0)) → i0 ≤ ops.size → wpList P ops Q (ops.toList.drop i0) a w → ∀ i, i ∈ Region.ready .any ops L → wpOp P ops Q i (wpAny P .any ops Q fuel (L.setIfInBounds i true)) a w := by
      intro i0 h1 h2 h3 h4 i hi
      obtain ⟨hi1, hi2, hi3⟩ := hrd L i hL hi
      obtain ⟨o, ho⟩ := hops i hi1
      have hge : i0 ≤ i := by
        rcases Nat.lt_or_ge i i0 with h | h
        · have := (h2 i hi1).2 h; rw [hi2] at this; cases this
        · exact h
      have hall : ∀ j, j < i → L.getD j false = true := fun j hj => by
        by_cases hjf : j = f
        · rw [hjf]; exact (h2 f (by omega)).2 (by omega)
        · exact prec_closed hcl 9 i j ((hchk i o ho).2 (by omega) j hj (fun h => hjf h.2)) hi3
      have hii : i = i0 := by
        rcases Nat.lt_or_ge i0 i with h | h
        · have := (h2 i0 (by omega)).1 (hall i0 h); omega
        · omega
      subst hii
      have hd : ops.toList.drop i = o :: ops.toList.drop (i + 1) := by
        rw [List.drop_eq_getElem_cons (by simpa using hi1)]
        congr 1
        have := (Array.getElem?_eq_some_iff.1 ho).2
        simpa using this
      rw [hd] at h4
      have hK : ∀ a' w', wpList P ops Q (ops.toList.drop (i + 1)) a' w' → wpAny P .any ops Q fuel (L.setIfInBounds i true) a' w' := fun a' w' hw' =>
        next i a' w' hi1 hi2 hi3 (.inr (.inl ⟨i + 1, by omega, fun j hj => by
          rw [getD_set (by omega)]
          by_cases hji : j = i
          · simp [hji]
          · rw [if_neg hji, h2 j hj]; omega, by omega, hw'⟩))
      unfold wpOp
      simp only [ho]
      simp only [wpList] at h4
      split
      · rename_i hw
        rw [if_pos hw] at h4
        exact h4.imp (Oper.wp_mono hK) id
      · rename_i hw
        rw [if_neg hw] at h4
        exact hK _ _ h4
    refine ⟨fun hr => ?_, fun i hi => ?_⟩
    · have hall := hnone L hL hr
      rcases hJ with ⟨O, H, hst, htail⟩ | ⟨i0, h1, h2, h3, h4⟩ | ⟨h3, _⟩
      · have := htail k (Nat.le_refl _); rw [hall k hkn] at this; cases this
      · have : i0 = ops.size := by
          rcases Nat.lt_or_ge i0 ops.size with h | h
          · have := (h2 i0 h).1 (hall i0 h); omega
          · omega
        rw [List.drop_eq_nil_of_le (by simp; omega)] at h4
        exact h4
      · exact absurd rfl ((h3 f (by omega)).1 (hall f (by omega))).2
    · obtain ⟨hi1, hi2, hi3⟩ := hrd L i hL hi
      obtain ⟨o, ho⟩ := hops i hi1
      rcases hJ with ⟨O, H, hst, htail⟩ | ⟨i0, h1, h2, h3, h4⟩ | ⟨h3, h4⟩
      · rcases Nat.lt_or_ge i k with hik | hik
        · refine PSt.step hpw hk (parOkL_hd hok) hh hso hL hcl hst hik ho (hi3 o ho) hi2 hN _ fun O' H' a' w' hst' => ?_
          refine next i a' w' hi1 hi2 hi3 (.inl ⟨O', H', hst', fun j hj => ?_⟩)
          rw [getD_set (by omega), if_neg (by omega)]
          exact htail j hj
        · have hik' : i = k := by
            rcases Nat.lt_or_ge k i with h | h
            · have := prec_closed hcl 9 i k ((hchk i o ho).2 hik k h (fun hh => by omega)) hi3
              rw [htail k (Nat.le_refl _)] at this; cases this
            · omega
          subst hik'
          have hall : ∀ j, j < i → j ≠ f → L.getD j false = true := fun j hj hjf => prec_closed hcl 9 i j ((hchk i o ho).2 hik j hj (fun h => hjf h.2)) hi3
          by_cases hfL : L.getD f false = true
          · obtain ⟨t1, t2⟩ := turn L a w hL (fun j hj => by
              by_cases hjf : j = f
              · rw [hjf]; exact hfL
              · exact hall j hj hjf) htail ⟨O, H, hst⟩
            exact tail i (Nat.le_refl _) t1 hk t2 i hi
          · have hfF : L.getD f false = false := by simpa using hfL
            have h4 := turnL L a w hL hall ⟨O, H, hst⟩
            rw [hokk] at ho
            cases ho
            have hK : ∀ a' w', wpList P ops Q (of :: ops.toList.drop (i + 1)) a' w' → wpAny P .any ops Q fuel (L.setIfInBounds i true) a' w' := fun a' w' hw' =>
              next i a' w' hi1 hi2 hi3 (.inr (.inr ⟨fun j hj => by
                rw [getD_set (by omega)]
                by_cases hji : j = i
                · simp [hji]; omega
                · rw [if_neg hji]
                  by_cases hjf : j = f
                  · subst hjf; rw [hfF]; simp
                  · rcases Nat.lt_or_ge j i with h | h
                    · rw [hall j h hjf]; simp; omega
                    · rw [htail j h]; simp; omega, hw'⟩))
            unfold wpOp
            simp only [hokk]
            unfold wpList at h4
            split
            · rename_i hw
              rw [if_pos hw] at h4
              exact h4.imp (Oper.wp_mono hK) id
            · rename_i hw
              rw [if_neg hw] at h4
              exact hK _ _ h4
      · exact tail i0 h1 h2 h3 h4 i hi
      · have hif : i = f := by
          refine Decidable.byContradiction fun hne => ?_
          have h5 : ¬ i < k + 1 := fun h => by have := (h3 i hi1).2 ⟨h, hne⟩; rw [hi2] at this; cases this
          have h6 := prec_closed hcl 9 i f ((hchk i o ho).2 (by omega) f (by omega) (fun h => by omega)) hi3
          exact absurd rfl ((h3 f (by omega)).1 h6).2
        subst hif
        rw [hof] at ho
        cases ho
        have hK : ∀ a' w', wpList P ops Q (ops.toList.drop (k + 1)) a' w' → wpAny P .any ops Q fuel (L.setIfInBounds i true) a' w' := fun a' w' hw' =>
          next i a' w' hi1 hi2 hi3 (.inr (.inl ⟨k + 1, by omega, fun j hj => by
            rw [getD_set (by omega)]
            by_cases hji : j = i
            · simp [hji]; omega
            · rw [if_neg hji, h3 j hj]; omega, by omega, hw'⟩))
        unfold wpOp
        simp only [hof]
        unfold wpList at h4
        split
        · rename_i hw
          rw [if_pos hw] at h4
          exact h4.imp (Oper.wp_mono hK) id
        · rename_i hw
          rw [if_neg hw] at h4
          exact hK _ _ h4

theorem Tr.parL {id k f : Nat} {ps : List PO} {pf : PO} {ok of : Oper} (hm : P.follows .mixedOrders = true) (hpw : PW P w0.heap.size ops hs M0 (ops.toList.take k) ps e0) (hk : k ≤ ops.size) (hok : parOkL ops k f = true) (hh : handOk e0 M0 ps = true) (hso : stOk hs ps = true) (hN : ps.all (fun p => !p.ds || decide (p.d < N)) = true)
    (hpf : ps[f]? = some pf) (hpfs : pf.st = none) (hpfm : pf.mo = none) (hpfd : pf.ds = true) (hokk : ops[k]? = some ok) (hof : ops[f]? = some of)
    (ht : TrOps P N w0 O0 ops Q (finE e0 ps) (finM M0 ps) (ops.toList.drop k)) (htl : TrOps P N w0 O0 ops Q (finE (dropE pf.d e0) (ps.eraseIdx f)) (finM M0 (ps.eraseIdx f)) (ok :: of :: ops.toList.drop (k + 1))) : Tr P N w0 O0 e0 M0 (.region id ops true) Q := by
  intro O H a w hst
  have memD : ∀ h m, look M0 h = some m → MHold O H w0.heap.size w.drew h m := fun h m hm => MHold.mono (w := w) (w' := w.drew) (hb := none) (hh := none) (O := O) (O' := O) (H := H) (H' := H) ⟨fun _ _ => rfl, fun _ _ _ => rfl, fun _ _ => rfl⟩ (hst.mem h m hm) (by simp) (by simp) 0 (fun h he => by cases he) (.inl rfl)
  refine wp_region_any hm (par_late hpw hk hok hh hso (fun p hp hps => by have := List.all_eq_true.1 hN p hp; rw [hps] at this; simpa using this) hpf hpfs hpfm hpfd hokk hof ht htl ops.size _ a _ (by simp) (fun i hi _ => by omega) (Nat.le_trans (List.length_filter_le _ _) (by simp)) (fun i hi => ?_) (.inl ⟨O, H, ?_, fun i _ => ?_⟩))
  · simp only [Array.getD_eq_getD_getElem?, Array.getElem?_replicate] at hi
    split at hi <;> simp at hi
  · refine ⟨hst.df, hst.sz, hst.bl.drew, hst.lab, fun n s hs _ => (let ⟨x, hx, hr⟩ := hst.slots n s hs; ⟨x, hx, RepS.keeps (w := w) (w' := w.drew) (O := O) (fun b _ h => ⟨h, rfl⟩) hr⟩), fun i p _ _ hi => ?_, fun h m hm => memD h m (look_dropM hm).1, fun i p h m _ hi => ?_, fun i p h m m' hp hps => ?_⟩
    · simp only [Array.getD_eq_getD_getElem?, Array.getElem?_replicate] at hi
      split at hi <;> simp at hi
    · simp only [Array.getD_eq_getD_getElem?, Array.getElem?_replicate] at hi
      split at hi <;> simp at hi
    · have hF : (Array.replicate ops.size false).getD i false = false := by
        simp only [Array.getD_eq_getD_getElem?, Array.getElem?_replicate]
        split <;> simp
      rw [if_neg (by rw [hF]; simp)]
      obtain ⟨o, ho⟩ : ∃ o, (ops.toList.take k)[i]? = some o := ⟨(ops.toList.take k)[i]'(by rw [hpw.get.1]; exact (List.getElem?_eq_some_iff.1 hp).1), List.getElem?_eq_getElem _⟩
      have hs1 := hpw.get.2 i o p ho hp
      simp only [PStep, hps] at hs1
      exact memD h m hs1.2.2.2.1
  · simp only [Array.getD_eq_getD_getElem?, Array.getElem?_replicate]
    split <;> simp

theorem PC.doneL {id : Nat} {ps : List PO} {e : Env} {rest : List Oper} (k f : Nat) {pf : PO} {ok of : Oper} (hm : P.follows .mixedOrders = true) (hkl : ps.length = k) (hok : parOkL ops k f = true) (hh : handOk e0 M0 ps = true) (hso : stOk hs ps = true) (hN : ps.all (fun p => !p.ds || decide (p.d < N)) = true)
    (hpf : ps[f]? = some pf) (hpfs : pf.st = none) (hpfm : pf.mo = none) (hpfd : pf.ds = true) (hof : ops[f]? = some of)
    (ht : TrOps P N w0 O0 ops Q e (finM M0 ps) (ok :: rest)) (htl : TrOps P N w0 O0 ops Q (finE (dropE pf.d e0) (ps.eraseIdx f)) (finM M0 (ps.eraseIdx f)) (ok :: of :: rest)) : PC P N w0 O0 id ops Q hs e0 M0 ps e (ok :: rest) := by
  intro pre hops hpw he
  subst he
  subst hkl
  have hlen : pre.length = ps.length := hpw.get.1
  have hk : ps.length ≤ ops.size := by
    have : ops.size = (pre ++ ok :: rest).length := by rw [← hops]; simp
    rw [this, ← hlen]; simp
  have hd : ops.toList.drop (ps.length + 1) = rest := by rw [hops, ← hlen, List.drop_append]; simp
  have hokk : ops[ps.length]? = some ok := by
    rw [← Array.getElem?_toList, hops, ← hlen, List.getElem?_append_right (Nat.le_refl _)]; simp
  refine Tr.parL (k := ps.length) (f := f) (ps := ps) (pf := pf) (ok := ok) (of := of) hm ?_ hk hok hh hso hN hpf hpfs hpfm hpfd hokk hof ?_ ?_
  · rw [hops, ← hlen, List.take_left]; exact hpw
  · rw [hops, ← hlen, List.drop_left]; exact ht
  · rw [hd]; exact htl

theorem PC.doneLn {id : Nat} {ps : List PO} {e : Env} {rest : List Oper} (k f h1 : Nat) (m1 : Mo) (h2 : Nat) (m2 : Mo) {pf : PO} {ok of : Oper} {e2 : Env} (hm : P.follows .mixedOrders = true) (hkl : ps.length = k) (hok : parOkL ops k f = true) (hh : handOk e0 M0 ps = true) (hso : stOk hs ps = true) (hN : ps.all (fun p => !p.ds || decide (p.d < N)) = true)
    (hpf : ps[f]? = some pf) (hpfs : pf.st = none) (hpfm : pf.mo = none) (hpfd : pf.ds = true) (hof : ops[f]? = some of) (_hd2 : DropR pf.d e e2) (he2 : finE (dropE pf.d e0) (ps.eraseIdx f) = e2) (hM1 : finM M0 ps = (h2, m2) :: (h1, m1) :: M0) (hM2 : finM M0 (ps.eraseIdx f) = (h2, m2) :: (h1, m1) :: M0)
    (ht : TrOps P N w0 O0 ops Q e ((h2, m2) :: (h1, m1) :: M0) (ok :: rest)) (htl : TrOps P N w0 O0 ops Q e2 ((h2, m2) :: (h1, m1) :: M0) (ok :: of :: rest)) : PC P N w0 O0 id ops Q hs e0 M0 ps e (ok :: rest) := by
  subst he2
  exact PC.doneL k f hm hkl hok hh hso hN hpf hpfs hpfm hpfd hof (by rw [hM1]; exact ht) (by rw [hM2]; exact htl)

def dumPO : PO := ⟨0, .u, none, none, false⟩
/-- The first k operations are open; operation k follows them; operation k + 1 may come at any time. -/
def parOkE (ops : Array Oper) (k : Nat) : Bool :=
  let ds : List (Option Nat) := ops.toList.map (·.dst)
  (List.range ops.size).all fun i => match ops[i]? with
    | none => false
    | some o =>
      (o.after.all fun e => !(Region.binds .any e) || decide (e.on < i)) &&
      (if i < k || i == k + 1 then
        (List.range (k + 2)).all fun j => j == k || match ds.getD j none with
          | some d => (i == j || o.dst != some d) && (!((tmpsOf ops o).contains d) || (decide (j < i) && prec ops 9 i j) || (decide (i < j) && prec ops 9 j i))
          | none => true
      else (List.range i).all fun j => prec ops 9 i j)

end
end Go.Eng
end

section
/- The engine, part 20: small arrays of ints. The engine, part 21: structs written into a slice of the call's own; the slice cut. -/



set_option linter.unusedSimpArgs false
set_option linter.unnecessarySimpa false
set_option linter.unusedVariables false
namespace Go.Eng
open Go.RowKit (Below)

def arrOf (P : Program) (t : TypeId) (n : Nat) : Bool :=
  match P.underlying t with
  | some (.array m e) => m == n && (P.info? e).map (·.size) == some 1 && P.cellsOf e == 1 && vsz P e == some (false, 1) && (match P.underlying e with | some (.int _) => true | _ => false) && !P.eqGuardType P.depth t
  | _ => false
section
variable {P : Program} {B : Nat} {o : Oper} {e : Env} {M : Mem} {s : S}
end
end Go.Eng

set_option linter.unusedSimpArgs false
set_option linter.unnecessarySimpa false
set_option linter.unusedVariables false
namespace Go.Eng
open Go.RowKit (Below)

section
variable {P : Program} {N : Nat} {w0 : World} {O0 : Nat → Nat} {ops : Array Oper} {Q : Post} {e : Env} {M : Mem} {rest : List Oper} {o : Oper} {s : S} {B : Nat}

theorem TrOps.ofSt0 {h : Nat} {m m' : Mo} (hst : OpSt P w0.heap.size o e h m m' s) (hM : look M h = some m) (hg : o.guard = none) (hd : o.dst = none)
    (hn : TrOps P N w0 O0 ops Q e ((h, m') :: M) rest) : TrOps P N w0 O0 ops Q e M (o :: rest) := by
  intro O H a w h0
  refine wpList_plain hg fun K hK => Oper.wp_false (hst O H a w h0.bl.size (h0.slotsAt _) (h0.mem h m hM) _ fun w' x h1 h2 h3 h4 => hK _ _ (hn O H _ _ ⟨?_, ?_, h0.bl.trans (h2.mono (Nat.le_refl _)), h0.lab, ?_, fun h' mm hm => ?_⟩)) _
  · rw [hd]; exact h0.df
  · rw [hd]; exact h0.sz
  · rw [hd]
    intro n s' hs'
    obtain ⟨z, hz, hr⟩ := h0.slots n s' hs'
    exact ⟨z, hz, hr.mono0 h1⟩
  · rcases look_cons hm with ⟨rfl, rfl⟩ | ⟨hne, hm⟩
    · exact h3
    · exact (h0.mem h' mm hm).mono h1 (by intro e; cases e; exact hne rfl) (by simp) 0 (fun h he => by cases he) (.inl rfl)

end
end Go.Eng
end

section
/- The engine, part 22: maps of the call's own, from structs of ints to ints. -/




set_option linter.unusedSimpArgs false
set_option linter.unnecessarySimpa false
set_option linter.unusedVariables false
namespace Go.Eng
open Go.RowKit (Below)

abbrev keyV (k : List Int) : Value := .agg (k.map (Value.int .i64)).toArray
/-- What a map holds, in the order of the stores. -/
def mapK (l : List (List Int × Int)) : Km := {
  q O v B w h := ∃ (b clock : Nat) (es : Array MapEntry), v = .map (some b) ∧ B ≤ b ∧ O b = h + 1 ∧ w.heap[b]? = some (.map es clock) ∧ es.toList.map (fun e => (e.key, e.val)) = l.map fun p => (keyV p.1, Value.int .i64 p.2)
  mono := by
    rintro O O' v B w w' h hk ⟨b, clock, es, h1, h2, h3, h4, h5⟩
    have hb : b < w.heap.size := (Array.getElem?_eq_some_iff.1 h4).1
    obtain ⟨k1, k2⟩ := hk b hb (.inr h3)
    exact ⟨b, clock, es, h1, h2, k1.trans h3, k2.trans h4, h5⟩ }

def lookM (l : List (List Int × Int)) (k : List Int) : Option Int := (l.find? fun p => decide (k = p.1)).map (·.2)

section
variable {P : Program}
variable {B : Nat} {o : Oper} {e : Env} {M : Mem}
end
end Go.Eng
end

section
/- The engine, part 23: a slice of slices, all of the call's own. -/

set_option linter.unusedSimpArgs false
set_option linter.unnecessarySimpa false
set_option linter.unusedVariables false
namespace Go.Eng
open Go.RowKit (Below)

/-- One element: a slice of the same handle, in a block of its own. -/
def cellOk (O : Nat → Nat) (B : Nat) (w : World) (h b k2 T2 : Nat) (x : Value) (r : List (List D)) : Prop :=
  MHold O (fun _ => x) B w h (.own k2 T2 r) ∧ ∀ b' n c, x = .slice (some ⟨b', 0, none⟩) n c → b' ≠ b
theorem keeps_of {O O' : Nat → Nat} {w w' : World} {h : Nat} (hk : ∀ b, b < w.heap.size → O b = 0 ∨ O b = h + 1 → O' b = O b ∧ w'.heap[b]? = w.heap[b]?) : Keeps O w O' w' := fun b hb h0 => by
  obtain ⟨k1, k2⟩ := hk b hb (.inl h0)
  exact ⟨k1.trans h0, k2⟩
theorem cellOk.mono {O O' : Nat → Nat} {B : Nat} {w w' : World} {h b k2 T2 : Nat} {x : Value} {r : List (List D)} (hc : cellOk O B w h b k2 T2 x r) (hk : Keeps O w O' w') (hx : ∀ b' n c, x = .slice (some ⟨b', 0, none⟩) n c → O b' = h + 1 → b' < w.heap.size → O' b' = O b' ∧ w'.heap[b']? = w.heap[b']?) : cellOk O' B w' h b k2 T2 x r := by
  refine ⟨?_, hc.2⟩
  rcases hc.1 with ⟨h0, h1⟩ | ⟨b', cap, ys, hH, hB, hO, hb, hlc, hcm, hsz, hw, hcc⟩
  · exact .inl ⟨h0, h1⟩
  · have hlt := (Array.getElem?_eq_some_iff.1 hb).1
    obtain ⟨q1, q2⟩ := hx b' _ _ hH hO hlt
    exact .inr ⟨b', cap, ys, hH, hB, q1.trans hO, q2.trans hb, hlc, hcm, hsz, hw, fun i r j d hi hj => by
      obtain ⟨y, hy, hr, ho⟩ := hcc i r j d hi hj
      exact ⟨y, hy, hr.mono hk, ho⟩⟩

structure Own2 (O : Nat → Nat) (v : Value) (B : Nat) (w : World) (h T k2 T2 : Nat) (rows : List (List (List D))) (hole : Option Nat) (b cap : Nat) (xs : Array Value) : Prop where
  v : v = .slice (some ⟨b, 0, none⟩) rows.length cap
  hB : B ≤ b
  hO : O b = h + 1
  hb : w.heap[b]? = some (.cells xs T (0, 0))
  lc : rows.length ≤ cap
  cm : cap ≤ maxLen
  sz : xs.size = cap
  cell : ∀ i r, rows[i]? = some r → ∃ x, xs[i]? = some x ∧ x.oneCell' = true ∧ (hole ≠ some i → cellOk O B w h b k2 T2 x r)
  dist : ∀ i j x y b1 n1 c1 b2 n2 c2, i ≠ j → hole ≠ some i → hole ≠ some j → i < rows.length → j < rows.length → xs[i]? = some x → xs[j]? = some y → x = .slice (some ⟨b1, 0, none⟩) n1 c1 → y = .slice (some ⟨b2, 0, none⟩) n2 c2 → b1 ≠ b2

def own2K (T k2 T2 : Nat) (rows : List (List (List D))) (hole : Option Nat) (fix : Option (Nat × Array Value)) : Km := {
  q O v B w h := ∃ b cap xs, (∀ p, fix = some p → p = (b, xs)) ∧ Own2 O v B w h T k2 T2 rows hole b cap xs
  mono := by
    rintro O O' v B w w' h hk ⟨b, cap, xs, hf, ho⟩
    have hb : b < w.heap.size := (Array.getElem?_eq_some_iff.1 ho.hb).1
    obtain ⟨k1, k2⟩ := hk b hb (.inr ho.hO)
    refine ⟨b, cap, xs, hf, ho.v, ho.hB, k1.trans ho.hO, k2.trans ho.hb, ho.lc, ho.cm, ho.sz, fun i r hi => ?_, ho.dist⟩
    obtain ⟨x, h1, h2, h3⟩ := ho.cell i r hi
    exact ⟨x, h1, h2, fun hn => (h3 hn).mono (keeps_of hk) fun b' n c he hO' hlt => hk b' hlt (.inr hO')⟩ }

section
variable {P : Program} {B : Nat} {o : Oper} {e : Env} {M : Mem}
end

section
variable {P : Program} {N : Nat} {w0 : World} {O0 : Nat → Nat} {ops : Array Oper} {Q : Post} {e : Env} {M : Mem} {rest : List Oper} {o : Oper} {c : Code}

theorem St.memSet {h : Nat} {m : Mo} {O : Nat → Nat} {H : Nat → Value} {a : Act} {w : World} (hst : St N w0 O0 e M O H a w) (hm : MHold O H w0.heap.size w h m) : St N w0 O0 e ((h, m) :: M) O H a w :=
  ⟨hst.df, hst.sz, hst.bl, hst.lab, hst.slots, fun n m' hm' => by
    rcases look_cons hm' with ⟨rfl, rfl⟩ | ⟨_, hm'⟩
    · exact hm
    · exact hst.mem n m' hm'⟩

end
end Go.Eng
end

section
/- The engine, part 24: a region whose order is open, where several operations may come late. -/

set_option linter.unusedSimpArgs false
set_option linter.unnecessarySimpa false
set_option linter.unusedVariables false
namespace Go.Eng
open Go.RowKit (Below)

/-- e2 is e without the slots ds. -/
inductive DropRs (ds : List Nat) : Env → Env → Prop
  | nil : DropRs ds [] []
  | hit {n : Nat} {s : S} {e e2 : Env} (h : (ds.any fun d => Nat.beq n d) = true) : DropRs ds e e2 → DropRs ds ((n, s) :: e) e2
  | miss {n : Nat} {s : S} {e e2 : Env} (h : (ds.any fun d => Nat.beq n d) = false) : DropRs ds e e2 → DropRs ds ((n, s) :: e) ((n, s) :: e2)
theorem DropRs.look {ds : List Nat} {e e2 : Env} (hd : DropRs ds e e2) : ∀ {n : Nat} {s : S}, look e2 n = some s → n ∉ ds ∧ look e n = some s := by
  induction hd with
  | nil => intro n s h; simp [Eng.look] at h
  | @hit m t e e2 h _ ih =>
    intro n s hl
    obtain ⟨h1, h2⟩ := ih hl
    refine ⟨h1, ?_⟩
    simp only [Eng.look]
    have : Nat.beq m n = false := by
      cases hb : Nat.beq m n with
      | false => rfl
      | true =>
        rw [Nat.eq_of_beq_eq_true hb] at h
        obtain ⟨d, hd, he⟩ := List.any_eq_true.1 h
        rw [Nat.eq_of_beq_eq_true he] at h1
        exact absurd hd h1
    rw [this]; exact h2
  | @miss m t e e2 h _ ih =>
    intro n s hl
    rcases look_cons hl with ⟨rfl, rfl⟩ | ⟨hne, hl⟩
    · refine ⟨fun hm => ?_, look_cons_same _ _ _⟩
      have : (ds.any fun d => Nat.beq n d) = true := List.any_eq_true.2 ⟨n, hm, by simp⟩
      rw [h] at this; cases this
    · obtain ⟨h1, h2⟩ := ih hl
      refine ⟨h1, ?_⟩
      simp only [Eng.look]
      have : Nat.beq m n = false := by cases hb : Nat.beq m n with
        | false => rfl
        | true => exact (hne (Nat.eq_of_beq_eq_true hb).symm).elim
      rw [this]; exact h2

section
variable {P : Program} {N : Nat} {w0 : World} {O0 : Nat → Nat} {ops : Array Oper} {Q : Post} {e0 e : Env} {M0 M : Mem} {hs : List Nat} {o : Oper}

def nrm (R : Act → World → Prop) : Post := fun x a w => x = .normal ∧ R a w
theorem Oper.wp_nrm {K R : Act → World → Prop} {a : Act} {w : World} (h : o.wp P a w K (nrm R)) (Q : Post) : o.wp P a w K Q := by
  unfold Oper.wp at *
  generalize (execOp a.eval o).run P w = r at *
  cases r with
  | ok n w' =>
    cases n <;> simp only [Oper.upon] at h ⊢ <;> first
      | exact h
      | exact Calls.mono h (fun e w'' he => by
          cases e with
          | returned v => exact he
          | panicked c => exact nomatch he.1
          | outgrown => obtain ⟨_, _, h, _⟩ := he; exact nomatch h)
  | halt x w' => cases x <;> simp only [Oper.upon] at h ⊢ <;> first | exact nomatch h.1 | exact h
theorem wp1 {R : Act → World → Prop} {a : Act} {w : World} {i : Nat} (ho : ops[i]? = some o) (h : wpList P ops (nrm R) [o] a w) : wpOp P ops Q i R a w := by
  unfold wpOp
  simp only [ho]
  unfold wpList at h
  split
  · rename_i hw
    rw [if_pos hw] at h
    rcases h with h | ⟨_, _, _, h, _⟩
    · exact .inl (Oper.wp_mono (fun a w h => h.2) (Oper.wp_nrm h Q))
    · exact nomatch h
  · rename_i hw
    rw [if_neg hw] at h
    exact h.2

/-- The operations of a set come in any order, each behind what it reads; then the tail. -/
def wpSet (P : Program) (ops : Array Oper) (Q : Post) (tail : List Oper) : Nat → List Nat → Act → World → Prop
  | 0, _, a, w => wpList P ops Q tail a w
  | n + 1, F, a, w => ∀ i, i ∈ F → (∀ j, j ∈ F → prec ops 9 i j = false) → wpOp P ops Q i (wpSet P ops Q tail n (F.erase i)) a w
def TrSet (P : Program) (N : Nat) (w0 : World) (O0 : Nat → Nat) (ops : Array Oper) (Q : Post) (tail : List Oper) (n : Nat) (F : List Nat) (e : Env) (M : Mem) : Prop :=
  ∀ (O : Nat → Nat) (H : Nat → Value) (a : Act) (w : World), St N w0 O0 e M O H a w → wpSet P ops Q tail n F a w
def TrI (P : Program) (N : Nat) (w0 : World) (O0 : Nat → Nat) (ops : Array Oper) (Q : Post) (tail : List Oper) (n : Nat) (F : List Nat) (e : Env) (M : Mem) (i : Nat) : Prop :=
  ∀ (O : Nat → Nat) (H : Nat → Value) (a : Act) (w : World), St N w0 O0 e M O H a w → wpOp P ops Q i (wpSet P ops Q tail n (F.erase i)) a w
def EachI (R : Nat → Prop) : List Nat → Prop
  | [] => True
  | i :: r => R i ∧ EachI R r
theorem EachI.get {R : Nat → Prop} : ∀ {l : List Nat} {i : Nat}, EachI R l → i ∈ l → R i
  | _ :: _, _, h, hi => by
    rcases List.mem_cons.1 hi with rfl | hi
    · exact h.1
    · exact EachI.get h.2 hi
variable {tail : List Oper} {n : Nat} {F : List Nat}
theorem TrSet.zero (h : TrOps P N w0 O0 ops Q e M tail) : TrSet P N w0 O0 ops Q tail 0 F e M := h
theorem TrSet.succ (h : EachI (fun i => (F.any fun j => prec ops 9 i j) = true ∨ TrI P N w0 O0 ops Q tail n F e M i) F) : TrSet P N w0 O0 ops Q tail (n + 1) F e M := fun O H a w hst i hi hp => by
  rcases h.get hi with hb | hb
  · obtain ⟨j, hj, he⟩ := List.any_eq_true.1 hb
    rw [hp j hj] at he; cases he
  · exact hb O H a w hst
theorem TrSet.start (h : TrSet P N w0 O0 ops Q tail n F e M) : TrOps P N w0 O0 ops (nrm (wpSet P ops Q tail n F)) e M [] := fun O H a w hst => ⟨rfl, h O H a w hst⟩
theorem TrI.sem {i d : Nat} {s : S} {F' : List Nat} (ho : ops[i]? = some o) (hsem : OpSem P w0.heap.size o e M s none) (hg : o.guard = none) (hd : o.dst = some d) (hdN : d < N) (hF : F.erase i = F')
    (h : TrSet P N w0 O0 ops Q tail n F' ((d, s) :: e) M) : TrI P N w0 O0 ops Q tail n F e M i := fun O H a w hst => by
  subst hF
  exact wp1 ho (TrOps.sem (Q := nrm (wpSet P ops Q tail n (F.erase i))) hsem hg hd hdN (TrSet.start h) O H a w hst)

/-- As parOk, but the operations F of the open part may also come behind operation k. -/
def parOkS (ops : Array Oper) (k : Nat) (F : List Nat) : Bool :=
  let ds : List (Option Nat) := ops.toList.map (·.dst)
  (F.all fun f => decide (f < k)) && (List.range ops.size).all fun i => match ops[i]? with
    | none => false
    | some o =>
      (o.after.all fun e => !(Region.binds .any e) || decide (e.on < i)) &&
      (if i < k then
        (List.range k).all fun j => match ds.getD j none with
          | some d => (i == j || o.dst != some d) && (!((tmpsOf ops o).contains d) || (decide (j < i) && prec ops 9 i j) || (decide (i < j) && prec ops 9 j i))
          | none => true
      else (List.range i).all fun j => (i == k && F.contains j) || prec ops 9 i j)
theorem parOkS_hd {ops : Array Oper} {k : Nat} {F : List Nat} (hok : parOkS ops k F = true) : ParHd ops k := by
  intro i o hik ho
  unfold parOkS at hok
  simp only [Bool.and_eq_true, List.all_eq_true, List.mem_range] at hok
  have := hok.2 i (Array.getElem?_eq_some_iff.1 ho).1
  simp only [ho, hik, if_true, Bool.and_eq_true] at this
  exact this.2
def subsets : List Nat → List (List Nat)
  | [] => [[]]
  | x :: l => subsets l ++ (subsets l).map (x :: ·)
theorem filter_sub {p : Nat → Bool} : ∀ {l : List Nat}, l.filter p ∈ subsets l
  | [] => by simp [subsets]
  | x :: l => by
    have ih := filter_sub (p := p) (l := l)
    simp only [subsets, List.mem_append, List.mem_map, List.filter_cons]
    split
    · exact .inr ⟨_, ih, rfl⟩
    · exact .inl ih
def slotOf (ps : List PO) (i : Nat) : Nat := ((ps[i]?).map PO.d).getD 0
def pureOk (ps : List PO) (F : List Nat) : Bool := F.all fun f => match ps[f]? with | some p => p.st.isNone && p.mo.isNone && p.ds | none => false

/-- Every order of the open part is served, those of F behind k too. -/
theorem par_set {k : Nat} {F : List Nat} {ps : List PO} {ok : Oper} {M1 : Mem} (hpw : PW P w0.heap.size ops hs M0 (ops.toList.take k) ps e0) (hk : k ≤ ops.size) (hok : parOkS ops k F = true) (hh : handOk e0 M0 ps = true) (hso : stOk hs ps = true) (hN : ∀ p, p ∈ ps → p.ds = true → p.d < N)
    (hpu : pureOk ps F = true) (hnd : F.Nodup) (hokk : ops[k]? = some ok)
    (htl : ∀ F', F' ∈ subsets F → ∃ e2, DropRs (F'.map (slotOf ps)) (finE e0 ps) e2 ∧ TrOps P N w0 O0 ops (nrm (wpSet P ops Q (ops.toList.drop (k + 1)) F'.length F')) e2 (finM M0 ps) [ok]) :
    ∀ (fuel : Nat) (L : Array Bool) (a : Act) (w : World), L.size = ops.size → (∀ i, i < ops.size → L.getD i false = false → fuel ≠ 0) → ((List.range ops.size).filter fun i => !L.getD i false).length ≤ fuel →
      (∀ i, L.getD i false = true → ∀ o, ops[i]? = some o → ∀ e, e ∈ o.after → Region.binds .any e = true → L.getD e.on false = true) →
      ((∃ O H, PSt N w0 O0 e0 hs M0 ps L O H a w ∧ ∀ i, k ≤ i → L.getD i false = false) ∨ (∃ i0, k + 1 ≤ i0 ∧ (∀ i, i < ops.size → (L.getD i false = true ↔ i < i0)) ∧ i0 ≤ ops.size ∧ wpList P ops Q (ops.toList.drop i0) a w) ∨ (∃ F' : List Nat, F'.Nodup ∧ (∀ f, f ∈ F' → f < k) ∧ (∀ i, i < ops.size → (L.getD i false = true ↔ (i < k + 1 ∧ i ∉ F'))) ∧ wpSet P ops Q (ops.toList.drop (k + 1)) F'.length F' a w)) →
      wpAny P .any ops Q fuel L a w := by
  have hops : ∀ i, i < ops.size → ∃ o, ops[i]? = some o := fun i hi => ⟨ops[i], Array.getElem?_eq_getElem hi⟩
  have hfk : ∀ f, f ∈ F → f < k := by unfold parOkS at hok; simp only [Bool.and_eq_true, List.all_eq_true, decide_eq_true_eq] at hok; exact hok.1
  have hkn : k < ops.size := (Array.getElem?_eq_some_iff.1 hokk).1
  have hlenp : ps.length = k := by have := hpw.get.1; rw [← this]; simp; omega
  have hpure : ∀ f p, f ∈ F → ps[f]? = some p → p.st = none ∧ p.mo = none ∧ p.ds = true := by
    intro f p hf hp
    have := List.all_eq_true.1 hpu f hf
    simp only [hp, Bool.and_eq_true, Option.isNone_iff_eq_none] at this
    exact ⟨this.1.1, this.1.2, this.2⟩
  have hchk : ∀ i o, ops[i]? = some o → (∀ e, e ∈ o.after → Region.binds .any e = true → e.on < i) ∧ (k ≤ i → ∀ j, j < i → ¬ (i = k ∧ j ∈ F) → prec ops 9 i j = true) := by
    intro i o ho
    have hi : i < ops.size := (Array.getElem?_eq_some_iff.1 ho).1
    unfold parOkS at hok
    simp only [Bool.and_eq_true, List.all_eq_true, List.mem_range] at hok
    have := hok.2 i hi
    simp only [ho, Bool.and_eq_true] at this
    obtain ⟨h1, h2⟩ := this
    refine ⟨fun e he hb => ?_, fun hki j hj hne => ?_⟩
    · have := Array.all_eq_true'.1 h1 e he
      simp only [hb, Bool.not_true, Bool.false_or, decide_eq_true_eq] at this
      exact this
    · rw [if_neg (by omega)] at h2
      have h3 := List.all_eq_true.1 h2 j (List.mem_range.2 hj)
      simp only [Bool.or_eq_true, Bool.and_eq_true, beq_iff_eq, List.contains_iff_mem] at h3
      exact h3.resolve_left hne
  -- operation k comes up
  have turnS : ∀ (L : Array Bool) (a : Act) (w : World) (F' : List Nat), L.size = ops.size → F' ∈ subsets F → (∀ f, f ∈ F' → f ∈ F) → (∀ i, i < k → i ∉ F' → L.getD i false = true) → (∃ O H, PSt N w0 O0 e0 hs M0 ps L O H a w) →
      wpList P ops (nrm (wpSet P ops Q (ops.toList.drop (k + 1)) F'.length F')) [ok] a w := by
    rintro L a w F' hL hF' hsub h1 ⟨O, H, hst⟩
    obtain ⟨e2, hd, ht⟩ := htl F' hF'
    refine ht O H a w ⟨hst.df, hst.sz, hst.bl, hst.lab, fun n s hs => ?_, fun h m hm => ?_⟩
    · obtain ⟨hn, hs⟩ := hd.look hs
      rcases look_finE hs with ⟨i, p, hp, hps, rfl, rfl⟩ | ⟨h1', h2'⟩
      · have hik : i < k := by rw [← hlenp]; exact (List.getElem?_eq_some_iff.1 hp).1
        refine hst.new i p hp hps (h1 i hik fun hi => hn (List.mem_map.2 ⟨i, hi, ?_⟩))
        simp [slotOf, hp]
      · exact hst.old n s h2' (fun j p hj hs he => absurd he (h1' p (List.mem_of_getElem? hj) hs))
    · rcases look_finM hm with ⟨i, p, hp, hps, hmo⟩ | ⟨i, p, m0, hp, hps⟩ | ⟨hns, hm⟩
      · have hik : i < k := by rw [← hlenp]; exact (List.getElem?_eq_some_iff.1 hp).1
        refine hst.mnew i p h m hp (h1 i hik fun hi => ?_) hps hmo
        rw [(hpure i p (hsub i hi) hp).2.1] at hmo; cases hmo
      · have hik : i < k := by rw [← hlenp]; exact (List.getElem?_eq_some_iff.1 hp).1
        have := hst.sto i p h m0 m hp hps
        rwa [if_pos (h1 i hik fun hi => by rw [(hpure i p (hsub i hi) hp).1] at hps; cases hps)] at this
      · refine hst.mold h m (look_dropM_of (fun hin => ?_) hm)
        unfold stOk at hso
        simp only [Bool.and_eq_true] at hso
        obtain ⟨p, hp, he⟩ := List.any_eq_true.1 (List.all_eq_true.1 hso.2 h hin)
        cases hps : p.st with
        | none => rw [hps] at he; cases he
        | some x =>
          obtain ⟨h', m0, m1⟩ := x
          rw [hps] at he
          exact hns p hp h' m0 m1 hps (Nat.eq_of_beq_eq_true he)
  have hrd : ∀ (L : Array Bool) (i : Nat), L.size = ops.size → i ∈ Region.ready .any ops L → i < ops.size ∧ L.getD i false = false ∧ ∀ o, ops[i]? = some o → ∀ e, e ∈ o.after → Region.binds .any e = true → L.getD e.on false = true := by
    intro L i hL hi
    unfold Region.ready at hi
    rw [List.mem_filter] at hi
    obtain ⟨h1, h2⟩ := hi
    rw [List.mem_range] at h1
    simp only [Bool.and_eq_true, Bool.not_eq_true'] at h2
    obtain ⟨h2, h3⟩ := h2
    refine ⟨h1, ?_, fun o ho e he hb => ?_⟩
    · simpa [Array.getD_eq_getD_getElem?, Array.getElem?_eq_getElem (by omega : i < L.size)] using h2
    · simp only [ho, Option.map_some, Option.getD_some] at h3
      have := Array.all_eq_true'.1 h3 e he
      simpa [hb] using this
  have hnone : ∀ (L : Array Bool), L.size = ops.size → Region.ready .any ops L = [] → ∀ i, i < ops.size → L.getD i false = true := by
    intro L hL hr i
    induction i using Nat.strongRecOn with
    | _ i ih =>
      intro hi
      cases hl : L.getD i false with
      | true => rfl
      | false =>
        exfalso
        obtain ⟨o, ho⟩ := hops i hi
        have : i ∈ Region.ready .any ops L := by
          unfold Region.ready
          rw [List.mem_filter]
          refine ⟨List.mem_range.2 hi, ?_⟩
          simp only [Bool.and_eq_true, Bool.not_eq_true']
          refine ⟨by simpa [Array.getD_eq_getD_getElem?, Array.getElem?_eq_getElem (by omega : i < L.size)] using hl, ?_⟩
          simp only [ho, Option.map_some, Option.getD_some, Array.all_eq_true', Bool.or_eq_true, Bool.not_eq_true']
          intro e he
          by_cases hb : Region.binds .any e = true
          · exact .inr (ih e.on ((hchk i o ho).1 e he hb) (by have := (hchk i o ho).1 e he hb; omega))
          · exact .inl (by simpa using hb)
        rw [hr] at this; cases this
  have hcl' : ∀ (L : Array Bool) (i : Nat), L.size = ops.size → i < ops.size → (∀ i, L.getD i false = true → ∀ o, ops[i]? = some o → ∀ e, e ∈ o.after → Region.binds .any e = true → L.getD e.on false = true) → (∀ o, ops[i]? = some o → ∀ e, e ∈ o.after → Region.binds .any e = true → L.getD e.on false = true) →
      ∀ j, (L.setIfInBounds i true).getD j false = true → ∀ o, ops[j]? = some o → ∀ e, e ∈ o.after → Region.binds .any e = true → (L.setIfInBounds i true).getD e.on false = true := by
    intro L i hL hi hcl hr j hj o ho e he hb
    rw [getD_set (by omega)] at hj ⊢
    split
    · rfl
    · by_cases hji : j = i
      · subst hji; exact hr o ho e he hb
      · rw [if_neg hji] at hj; exact hcl j hj o ho e he hb
  have hcount : ∀ (L : Array Bool) (i n : Nat), L.size = ops.size → i < ops.size → L.getD i false = false → ((List.range ops.size).filter fun i => !L.getD i false).length ≤ n + 1 → ((List.range ops.size).filter fun j => !(L.setIfInBounds i true).getD j false).length ≤ n := by
    intro L i n hL hi hl hc
    have : ((List.range ops.size).filter fun j => !(L.setIfInBounds i true).getD j false) = ((List.range ops.size).filter fun j => !L.getD j false).filter (fun j => j != i) := by
      rw [List.filter_filter]
      apply List.filter_congr
      intro j _
      rw [getD_set (by omega)]
      by_cases h : j = i <;> simp [h]
    rw [this]
    have hlt : (((List.range ops.size).filter fun j => !L.getD j false).filter (fun j => j != i)).length < ((List.range ops.size).filter fun j => !L.getD j false).length := by
      rw [List.length_filter_lt_length_iff_exists]
      exact ⟨i, List.mem_filter.2 ⟨List.mem_range.2 hi, by rw [hl]; rfl⟩, by simp⟩
    omega
  have fin : ∀ (L : Array Bool) (a : Act) (w : World), (∀ i, i < ops.size → L.getD i false = true) → ((∃ O H, PSt N w0 O0 e0 hs M0 ps L O H a w ∧ ∀ i, k ≤ i → L.getD i false = false) ∨ (∃ i0, k + 1 ≤ i0 ∧ (∀ i, i < ops.size → (L.getD i false = true ↔ i < i0)) ∧ i0 ≤ ops.size ∧ wpList P ops Q (ops.toList.drop i0) a w) ∨ (∃ F' : List Nat, F'.Nodup ∧ (∀ f, f ∈ F' → f < k) ∧ (∀ i, i < ops.size → (L.getD i false = true ↔ (i < k + 1 ∧ i ∉ F'))) ∧ wpSet P ops Q (ops.toList.drop (k + 1)) F'.length F' a w)) → Q .normal a w := by
    intro L a w hall hJ
    rcases hJ with ⟨O, H, hst, htail⟩ | ⟨i0, h1, h2, h3, h4⟩ | ⟨F', _, h2, h3, h4⟩
    · have := htail k (Nat.le_refl _); rw [hall k hkn] at this; cases this
    · have : i0 = ops.size := by
        rcases Nat.lt_or_ge i0 ops.size with h | h
        · have := (h2 i0 h).1 (hall i0 h); omega
        · omega
      rw [List.drop_eq_nil_of_le (by simp; omega)] at h4
      exact h4
    · have hnil : F' = [] := by
        cases F' with
        | nil => rfl
        | cons f r => exact absurd (List.mem_cons_self) ((h3 f (by have := h2 f List.mem_cons_self; omega)).1 (hall f (by have := h2 f List.mem_cons_self; omega))).2
      subst hnil
      have : ops.size = k + 1 := by
        rcases Nat.lt_or_ge (k + 1) ops.size with h | h
        · have := ((h3 (k + 1) h).1 (hall (k + 1) h)).1; omega
        · omega
      have h5 : wpList P ops Q (ops.toList.drop (k + 1)) a w := h4
      rw [List.drop_eq_nil_of_le (by simp; omega)] at h5
      exact h5
  intro fuel
  induction fuel with
  | zero =>
    intro L a w hL hf hc hcl hJ
    have hall : ∀ i, i < ops.size → L.getD i false = true := fun i hi => by
      cases hl : L.getD i false with
      | true => rfl
      | false => exact absurd rfl (hf i hi hl)
    refine ⟨?_, fin L a w hall hJ⟩
    rw [List.eq_nil_iff_forall_not_mem]
    intro i hi
    obtain ⟨h1, h2, _⟩ := hrd L i hL hi
    rw [hall i h1] at h2; cases h2
  | succ fuel ih =>
    intro L a w hL hf hc hcl hJ
    have next : ∀ (i : Nat) (a' : Act) (w' : World), i < ops.size → L.getD i false = false → (∀ o, ops[i]? = some o → ∀ e, e ∈ o.after → Region.binds .any e = true → L.getD e.on false = true) →
        ((∃ O H, PSt N w0 O0 e0 hs M0 ps (L.setIfInBounds i true) O H a' w' ∧ ∀ j, k ≤ j → (L.setIfInBounds i true).getD j false = false) ∨ (∃ i0, k + 1 ≤ i0 ∧ (∀ j, j < ops.size → ((L.setIfInBounds i true).getD j false = true ↔ j < i0)) ∧ i0 ≤ ops.size ∧ wpList P ops Q (ops.toList.drop i0) a' w') ∨ (∃ F' : List Nat, F'.Nodup ∧ (∀ f, f ∈ F' → f < k) ∧ (∀ j, j < ops.size → ((L.setIfInBounds i true).getD j false = true ↔ (j < k + 1 ∧ j ∉ F'))) ∧ wpSet P ops Q (ops.toList.drop (k + 1)) F'.length F' a' w')) →
        wpAny P .any ops Q fuel (L.setIfInBounds i true) a' w' := by
      intro i a' w' hi hl hr hJ'
      have hcc := hcount L i fuel hL hi hl hc
      refine ih _ a' w' (by simpa using hL) (fun j hj hlj h0 => ?_) hcc (hcl' L i hL hi hcl hr) hJ'
      subst h0
      have : ((List.range ops.size).filter fun j => !(L.setIfInBounds i true).getD j false) = [] := List.eq_nil_of_length_eq_zero (by omega)
      have hm : j ∈ ((List.range ops.size).filter fun j => !(L.setIfInBounds i true).getD j false) := List.mem_filter.2 ⟨List.mem_range.2 hj, by rw [hlj]; rfl⟩
      rw [this] at hm; cases hm
    -- the tail
    have tail : ∀ (i0 : Nat), k + 1 ≤ i0 → (∀ i, i < ops.size → (L.getD i false = true ↔ i < i0)) → i0 ≤ ops.size → wpList P ops Q (ops.toList.drop i0) a w → ∀ i, i ∈ Region.ready .any ops L → wpOp P ops Q i (wpAny P .any ops Q fuel (L.setIfInBounds i true)) a w := by
      intro i0 h1 h2 h3 h4 i hi
      obtain ⟨hi1, hi2, hi3⟩ := hrd L i hL hi
      obtain ⟨o, ho⟩ := hops i hi1
      have hge : i0 ≤ i := by
        rcases Nat.lt_or_ge i i0 with h | h
        · have := (h2 i hi1).2 h; rw [hi2] at this; cases this
        · exact h
      have hall : ∀ j, j < i → L.getD j false = true := fun j hj => prec_closed hcl 9 i j ((hchk i o ho).2 (by omega) j hj (fun h => by omega)) hi3
      have hii : i = i0 := by
        rcases Nat.lt_or_ge i0 i with h | h
        · have := (h2 i0 (by omega)).1 (hall i0 h); omega
        · omega
      subst hii
      have hd : ops.toList.drop i = o :: ops.toList.drop (i + 1) := by
        rw [List.drop_eq_getElem_cons (by simpa using hi1)]
        congr 1
        have := (Array.getElem?_eq_some_iff.1 ho).2
        simpa using this
      rw [hd] at h4
      have hK : ∀ a' w', wpList P ops Q (ops.toList.drop (i + 1)) a' w' → wpAny P .any ops Q fuel (L.setIfInBounds i true) a' w' := fun a' w' hw' =>
        next i a' w' hi1 hi2 hi3 (.inr (.inl ⟨i + 1, by omega, fun j hj => by
          rw [getD_set (by omega)]
          by_cases hji : j = i
          · simp [hji]
          · rw [if_neg hji, h2 j hj]; omega, by omega, hw'⟩))
      unfold wpOp
      simp only [ho]
      simp only [wpList] at h4
      split
      · rename_i hw
        rw [if_pos hw] at h4
        exact h4.imp (Oper.wp_mono hK) id
      · rename_i hw
        rw [if_neg hw] at h4
        exact hK _ _ h4
    have opMono : ∀ (i : Nat) (R : Act → World → Prop), (∀ a' w', R a' w' → wpAny P .any ops Q fuel (L.setIfInBounds i true) a' w') → wpOp P ops Q i R a w → wpOp P ops Q i (wpAny P .any ops Q fuel (L.setIfInBounds i true)) a w := by
      intro i R hR h4
      unfold wpOp at h4 ⊢
      split
      · rename_i hn
        simp only [hn] at h4
        exact hR _ _ h4
      · rename_i o ho
        simp only [ho] at h4
        split
        · rename_i hw
          rw [if_pos hw] at h4
          exact h4.imp (Oper.wp_mono hR) id
        · rename_i hw
          rw [if_neg hw] at h4
          exact hR _ _ h4
    refine ⟨fun hr => fin L a w (hnone L hL hr) hJ, fun i hi => ?_⟩
    obtain ⟨hi1, hi2, hi3⟩ := hrd L i hL hi
    obtain ⟨o, ho⟩ := hops i hi1
    rcases hJ with ⟨O, H, hst, htail⟩ | ⟨i0, h1, h2, h3, h4⟩ | ⟨F', hnd', h2, h3, h4⟩
    · rcases Nat.lt_or_ge i k with hik | hik
      · refine PSt.step hpw hk (parOkS_hd hok) hh hso hL hcl hst hik ho (hi3 o ho) hi2 hN _ fun O' H' a' w' hst' => ?_
        refine next i a' w' hi1 hi2 hi3 (.inl ⟨O', H', hst', fun j hj => ?_⟩)
        rw [getD_set (by omega), if_neg (by omega)]
        exact htail j hj
      · have hik' : i = k := by
          rcases Nat.lt_or_ge k i with h | h
          · have := prec_closed hcl 9 i k ((hchk i o ho).2 hik k h (fun hh => by omega)) hi3
            rw [htail k (Nat.le_refl _)] at this; cases this
          · omega
        subst hik'
        have hall : ∀ j, j < i → j ∉ F.filter (fun j => !L.getD j false) → L.getD j false = true := fun j hj hjf => by
          by_cases hjF : j ∈ F
          · cases hlj : L.getD j false with
            | true => rfl
            | false => exact absurd (List.mem_filter.2 ⟨hjF, by simp [hlj]⟩) hjf
          · exact prec_closed hcl 9 i j ((hchk i o ho).2 hik j hj (fun h => hjF h.2)) hi3
        have h4 := turnS L a w (F.filter fun j => !L.getD j false) hL filter_sub (fun f hf => (List.mem_filter.1 hf).1) hall ⟨O, H, hst⟩
        refine opMono i _ (fun a' w' hw' => ?_) (wp1 hokk h4)
        refine next i a' w' hi1 hi2 hi3 (.inr (.inr ⟨_, hnd.filter _, fun f hf => hfk f (List.mem_filter.1 hf).1, fun j hj => ?_, hw'⟩))
        rw [getD_set (by omega)]
        by_cases hji : j = i
        · subst hji
          simp only [if_true, true_iff]
          exact ⟨by omega, fun hm => by have := hfk j (List.mem_filter.1 hm).1; omega⟩
        · rw [if_neg hji]
          constructor
          · intro hlj
            rcases Nat.lt_or_ge j i with h | h
            · exact ⟨by omega, fun hm => by have := (List.mem_filter.1 hm).2; rw [hlj] at this; cases this⟩
            · rw [htail j h] at hlj; cases hlj
          · rintro ⟨h5, h6⟩
            exact hall j (by omega) h6
    · exact tail i0 h1 h2 h3 h4 i hi
    · by_cases hif : i ∈ F'
      · obtain ⟨m, hm⟩ : ∃ m, F'.length = m + 1 := by
          cases F' with
          | nil => cases hif
          | cons _ r => exact ⟨r.length, rfl⟩
        rw [hm] at h4
        have h5 := h4 i hif (fun j hj => by
          cases hp : prec ops 9 i j with
          | false => rfl
          | true => exact absurd hj ((h3 j (by have := h2 j hj; omega)).1 (prec_closed hcl 9 i j hp hi3)).2)
        refine opMono i _ (fun a' w' hw' => ?_) h5
        refine next i a' w' hi1 hi2 hi3 (.inr (.inr ⟨F'.erase i, hnd'.erase i, fun f hf => h2 f (List.mem_of_mem_erase hf), fun j hj => ?_, ?_⟩))
        · rw [getD_set (by omega), hnd'.mem_erase_iff]
          by_cases hji : j = i
          · subst hji
            have := h2 j hif
            simp; omega
          · rw [if_neg hji, h3 j hj]; simp [hji]
        · rw [List.length_erase_of_mem hif, hm]; exact hw'
      · have hge : k + 1 ≤ i := by
          rcases Nat.lt_or_ge i (k + 1) with h | h
          · have := (h3 i hi1).2 ⟨h, hif⟩; rw [hi2] at this; cases this
          · exact h
        have hnil : F' = [] := by
          cases F' with
          | nil => rfl
          | cons f r =>
            have hf := h2 f List.mem_cons_self
            have h6 := prec_closed hcl 9 i f ((hchk i o ho).2 (by omega) f (by omega) (fun h => by omega)) hi3
            exact absurd List.mem_cons_self ((h3 f (by omega)).1 h6).2
        subst hnil
        exact tail (k + 1) (Nat.le_refl _) (fun j hj => by rw [h3 j hj]; simp) hkn h4 i hi

theorem Tr.parS {id k : Nat} {F : List Nat} {ps : List PO} {ok : Oper} (hm : P.follows .mixedOrders = true) (hpw : PW P w0.heap.size ops hs M0 (ops.toList.take k) ps e0) (hk : k ≤ ops.size) (hok : parOkS ops k F = true) (hh : handOk e0 M0 ps = true) (hso : stOk hs ps = true) (hN : ps.all (fun p => !p.ds || decide (p.d < N)) = true)
    (hpu : pureOk ps F = true) (hnd : F.Nodup) (hokk : ops[k]? = some ok)
    (htl : ∀ F', F' ∈ subsets F → ∃ e2, DropRs (F'.map (slotOf ps)) (finE e0 ps) e2 ∧ TrOps P N w0 O0 ops (nrm (wpSet P ops Q (ops.toList.drop (k + 1)) F'.length F')) e2 (finM M0 ps) [ok]) : Tr P N w0 O0 e0 M0 (.region id ops true) Q := by
  intro O H a w hst
  have memD : ∀ h m, look M0 h = some m → MHold O H w0.heap.size w.drew h m := fun h m hm => MHold.mono (w := w) (w' := w.drew) (hb := none) (hh := none) (O := O) (O' := O) (H := H) (H' := H) ⟨fun _ _ => rfl, fun _ _ _ => rfl, fun _ _ => rfl⟩ (hst.mem h m hm) (by simp) (by simp) 0 (fun h he => by cases he) (.inl rfl)
  refine wp_region_any hm (par_set (M1 := M0) hpw hk hok hh hso (fun p hp hps => by have := List.all_eq_true.1 hN p hp; rw [hps] at this; simpa using this) hpu hnd hokk htl ops.size _ a _ (by simp) (fun i hi _ => by omega) (Nat.le_trans (List.length_filter_le _ _) (by simp)) (fun i hi => ?_) (.inl ⟨O, H, ?_, fun i _ => ?_⟩))
  · simp only [Array.getD_eq_getD_getElem?, Array.getElem?_replicate] at hi
    split at hi <;> simp at hi
  · refine ⟨hst.df, hst.sz, hst.bl.drew, hst.lab, fun n s hs _ => (let ⟨x, hx, hr⟩ := hst.slots n s hs; ⟨x, hx, RepS.keeps (w := w) (w' := w.drew) (O := O) (fun b _ h => ⟨h, rfl⟩) hr⟩), fun i p _ _ hi => ?_, fun h m hm => memD h m (look_dropM hm).1, fun i p h m _ hi => ?_, fun i p h m m' hp hps => ?_⟩
    · simp only [Array.getD_eq_getD_getElem?, Array.getElem?_replicate] at hi
      split at hi <;> simp at hi
    · simp only [Array.getD_eq_getD_getElem?, Array.getElem?_replicate] at hi
      split at hi <;> simp at hi
    · have hF : (Array.replicate ops.size false).getD i false = false := by
        simp only [Array.getD_eq_getD_getElem?, Array.getElem?_replicate]
        split <;> simp
      rw [if_neg (by rw [hF]; simp)]
      obtain ⟨o, ho⟩ : ∃ o, (ops.toList.take k)[i]? = some o := ⟨(ops.toList.take k)[i]'(by rw [hpw.get.1]; exact (List.getElem?_eq_some_iff.1 hp).1), List.getElem?_eq_getElem _⟩
      have hs1 := hpw.get.2 i o p ho hp
      simp only [PStep, hps] at hs1
      exact memD h m hs1.2.2.2.1
  · simp only [Array.getD_eq_getD_getElem?, Array.getElem?_replicate]
    split <;> simp


def EachL (R : List Nat → Prop) : List (List Nat) → Prop
  | [] => True
  | i :: r => R i ∧ EachL R r
theorem EachL.get {R : List Nat → Prop} : ∀ {l : List (List Nat)} {i : List Nat}, EachL R l → i ∈ l → R i
  | _ :: _, _, h, hi => by
    rcases List.mem_cons.1 hi with rfl | hi
    · exact h.1
    · exact EachL.get h.2 hi
/-- The open part is through; the operations F may come behind the next one. -/
theorem PC.doneS {id : Nat} {ps : List PO} {e : Env} {rest : List Oper} (F : List Nat) {ok : Oper} (ss : List (List Nat)) (hm : P.follows .mixedOrders = true) (hok : parOkS ops ps.length F = true) (hh : handOk e0 M0 ps = true) (hso : stOk hs ps = true) (hN : ps.all (fun p => !p.ds || decide (p.d < N)) = true)
    (hpu : pureOk ps F = true) (hnd : F.Nodup) (hss : subsets F = ss) (hM : finM M0 ps = M0)
    (htl : EachL (fun F' => ∃ D e2, F'.map (slotOf ps) = D ∧ DropRs D e e2 ∧ TrOps P N w0 O0 ops (nrm (wpSet P ops Q rest F'.length F')) e2 M0 [ok]) ss) : PC P N w0 O0 id ops Q hs e0 M0 ps e (ok :: rest) := by
  intro pre hops hpw he
  subst he
  have hlen : pre.length = ps.length := hpw.get.1
  have hk : ps.length ≤ ops.size := by
    have : ops.size = (pre ++ ok :: rest).length := by rw [← hops]; simp
    rw [this, ← hlen]; simp
  have hd : ops.toList.drop (ps.length + 1) = rest := by rw [hops, ← hlen, List.drop_append]; simp
  have hokk : ops[ps.length]? = some ok := by
    rw [← Array.getElem?_toList, hops, ← hlen, List.getElem?_append_right (Nat.le_refl _)]; simp
  refine Tr.parS (k := ps.length) (F := F) (ps := ps) (ok := ok) hm ?_ hk hok hh hso hN hpu hnd hokk fun F' hF' => ?_
  · rw [hops, ← hlen, List.take_left]; exact hpw
  · rw [hd, hM]
    rw [hss] at hF'
    obtain ⟨D, e2, rfl, h1, h2⟩ := htl.get hF'
    exact ⟨e2, h1, h2⟩
end
end Go.Eng
end

section
/- The engine, part 37: a region whose order is open, by the sets of its operations that are done. -/

set_option linter.unusedSimpArgs false
set_option linter.unnecessarySimpa false
set_option linter.unusedVariables false
namespace Go.Eng
open Go.RowKit (Below)

section
variable {P : Program} {N : Nat} {w0 : World} {O0 : Nat → Nat} {ops : Array Oper} {Q : Post} {e e' : Env} {M M' : Mem} {n : Nat} {L : List Bool}

theorem St.drewL {O : Nat → Nat} {H : Nat → Value} {a : Act} {w : World} (hst : St N w0 O0 e M O H a w) : St N w0 O0 e M O H a w.drew :=
  ⟨hst.df, hst.sz, hst.bl.drew, hst.lab, fun n s hs => (let ⟨x, hx, hr⟩ := hst.slots n s hs; ⟨x, hx, RepS.mono0 (hb := none) (w := w) (w' := w.drew) (O := O) (O' := O) (H := H) (H' := H) ⟨fun _ _ => rfl, fun _ _ _ => rfl, fun _ _ => rfl⟩ hr⟩),
    fun h m hm => MHold.mono (w := w) (w' := w.drew) (hb := none) (hh := none) (O := O) (O' := O) (H := H) (H' := H) ⟨fun _ _ => rfl, fun _ _ _ => rfl, fun _ _ => rfl⟩ (hst.mem h m hm) (by simp) (by simp) 0 (fun h he => by cases he) (.inl rfl)⟩

/-- From a state in which the operations marked in L are done. -/
def TrL (P : Program) (N : Nat) (w0 : World) (O0 : Nat → Nat) (ops : Array Oper) (Q : Post) (n : Nat) (L : List Bool) (e : Env) (M : Mem) : Prop :=
  ∀ (O : Nat → Nat) (H : Nat → Value) (a : Act) (w : World), St N w0 O0 e M O H a w → wpAny P .any ops Q n L.toArray a w
def TrN (P : Program) (N : Nat) (w0 : World) (O0 : Nat → Nat) (ops : Array Oper) (Q : Post) (n : Nat) (L : List Bool) (e : Env) (M : Mem) (i : Nat) : Prop :=
  ∃ o, ops[i]? = some o ∧ TrOps P N w0 O0 ops (nrm (wpAny P .any ops Q n (L.set i true).toArray)) e M [o]

theorem Tr.lattice {id : Nat} (n : Nat) (L : List Bool) (hm : P.follows .mixedOrders = true) (hn : ops.size = n) (hL : List.replicate n false = L) (h : TrL P N w0 O0 ops Q n L e M) : Tr P N w0 O0 e M (.region id ops true) Q := by
  intro O H a w hst
  refine wp_region_any hm ?_
  have := h O H a _ hst.drewL
  rw [hn]
  rw [← hL] at this
  simpa using this
theorem TrL.step (rs : List Nat) (hr : Region.ready .any ops L.toArray = rs) (h0 : rs.isEmpty = false) (h : EachI (TrN P N w0 O0 ops Q n L e M) rs) : TrL P N w0 O0 ops Q (n + 1) L e M := by
  intro O H a w hst
  refine ⟨fun hn => ?_, fun i hi => ?_⟩
  · rw [hr] at hn; rw [hn] at h0; cases h0
  · rw [hr] at hi
    obtain ⟨o, ho, ht⟩ := h.get hi
    have := wp1 (Q := Q) ho (ht O H a w hst)
    simpa using this
theorem TrL.join {i : Nat} {L' : List Bool} (h : TrL P N w0 O0 ops Q n L' e' M') (hL : L.set i true = L') (hs : Sub e M e' M') : TrOps P N w0 O0 ops (nrm (wpAny P .any ops Q n (L.set i true).toArray)) e M [] := fun O H a w hst => by
  subst hL
  exact ⟨rfl, h O H a w (hs.st hst)⟩
theorem TrL.fin (hr : Region.ready .any ops L.toArray = []) (h : At N w0 O0 e M .normal Q) : TrL P N w0 O0 ops Q n L e M := by
  intro O H a w hst
  cases n with
  | zero => exact ⟨hr, h O H a w hst⟩
  | succ n => exact ⟨fun _ => h O H a w hst, fun i hi => by rw [hr] at hi; cases hi⟩
theorem TrL.share (n' : Nat) (L' : List Bool) (e' : Env) (M' : Mem) (h : TrL P N w0 O0 ops Q n' L' e' M') (k : TrL P N w0 O0 ops Q n' L' e' M' → TrL P N w0 O0 ops Q n L e M) : TrL P N w0 O0 ops Q n L e M := k h
end
end Go.Eng
end

section
/- Short names for the rules that a walk uses most: what follows from the operation itself is filled in. -/


set_option linter.unusedSimpArgs false
set_option linter.unnecessarySimpa false
set_option linter.unusedVariables false
namespace Go.Eng
section
variable {P : Program} {B : Nat} {o : Oper} {e : Env} {M : Mem} {s : S}
theorem OpSem.m {x : Operand} (ho : o.op = .move x := by exact rfl) (hx : opS e x = some s := by exact rfl) : OpSem P B o e M s none := .move (.inl ho) hx
theorem OpSem.a {x : Operand} (ho : o.op = .assign x := by exact rfl) (hx : opS e x = some s := by exact rfl) : OpSem P B o e M s none := .move (.inr ho) hx
theorem OpSem.f {t k n h m : Nat} {x : Operand} (ht : fof P t k = some n) (ho : o.op = .fieldAddr t x k := by exact rfl) (hx : opS e x = some (.r h m) := by exact rfl) : OpSem P B o e M (.r h (m + n)) none := .fieldr ho hx ht
theorem OpSem.l {t : TypeId} {x : Operand} {h k : Nat} {cs : List S} (ht : vsz P t = some (false, 1)) (ho : o.op = .load t x := by exact rfl) (hx : opS e x = some (.r h k) := by exact rfl) (hM : look M h = some (.box cs) := by exact rfl)
    (hd : cs[k]? = some s := by exact rfl) : OpSem P B o e M s none := .loadb1 ho hx hM ht hd
theorem OpSem.b {op : BinOp} {t u : TypeId} {x y : Operand} {k : IntKind} {m n : Int} {z : Value} (hz : binOp op t (.int k m) (.int k n) = pure z) (ho : o.op = .binOp op t x y u := by exact rfl) (hx : opS e x = some (.d (.v (.int k m))) := by exact rfl) (hy : opS e y = some (.d (.v (.int k n))) := by exact rfl) :
    OpSem P B o e M (.d (.v z)) none := .bin ho hx hy hz
theorem OpSem.ad {t u : TypeId} {x y : Operand} {m n : Int} (ho : o.op = .binOp .add t x y u := by exact rfl) (hx : opS e x = some (.d (.v (.int .i64 m))) := by exact rfl) (hy : opS e y = some (.d (.v (.int .i64 n))) := by exact rfl) (h0 : -9223372036854775808 ≤ m + n := by omega) (h1 : m + n ≤ 9223372036854775807 := by omega) :
    OpSem P B o e M (.d (.v (.int .i64 (m + n)))) none := .bin ho hx hy (badd h0 h1)
theorem OpSem.su {t u : TypeId} {x y : Operand} {m n : Int} (ho : o.op = .binOp .sub t x y u := by exact rfl) (hx : opS e x = some (.d (.v (.int .i64 m))) := by exact rfl) (hy : opS e y = some (.d (.v (.int .i64 n))) := by exact rfl) (h0 : -9223372036854775808 ≤ m - n := by omega) (h1 : m - n ≤ 9223372036854775807 := by omega) :
    OpSem P B o e M (.d (.v (.int .i64 (m - n)))) none := .bin ho hx hy (bsub h0 h1)
theorem OpSem.bs {t k len : Nat} {ps : Array (Nat × Operand)} {l : List (Nat × S)} {zs : List Value} {ss : List S} {rows : List (List D)} (hk : esz P t = some k) (hz : zcells P (P.elem t) = some zs) (ho : o.op = .buildSlice t len ps := by exact rfl) (hp : partsS e ps.toList = some l := by exact rfl)
    (h1 : zs.all Value.oneCell' = true := by exact rfl) (hzk : zs.length = k := by exact rfl) (hk0 : 0 < k := by decide) (hlen : len * k ≤ 2 ^ 24 := by decide)
    (hf : fillS (fun i => some (i * k, k)) ((List.replicate len zs).flatten.map fun z => .d (.v z)) l = some ss := by exact rfl) (hr : rowsOf k len ss = some rows := by exact rfl) : OpSem P B o e M (.d (.s k rows)) none := .buildSlice ho hp hk hz h1 hzk hk0 hlen hf hr
end
section
variable {P : Program} {N : Nat} {w0 : World} {O0 : Nat → Nat} {ops : Array Oper} {Q : Post} {e : Env} {M : Mem} {rest : List Oper} {o : Oper} {s : S}
theorem TrOps.x (hsem : OpSem P w0.heap.size o e M s none) {d : Nat} (h : TrOps P N w0 O0 ops Q ((d, s) :: e) M rest) (hg : o.guard = none := by exact rfl) (hd : o.dst = some d := by exact rfl) (hdN : d < N := by decide) : TrOps P N w0 O0 ops Q e M (o :: rest) := TrOps.sem hsem hg hd hdN h
theorem TrOps.m {x : Operand} {d : Nat} (h : TrOps P N w0 O0 ops Q ((d, s) :: e) M rest) (ho : o.op = .move x := by exact rfl) (hx : opS e x = some s := by exact rfl) (hg : o.guard = none := by exact rfl) (hd : o.dst = some d := by exact rfl) (hdN : d < N := by decide) : TrOps P N w0 O0 ops Q e M (o :: rest) := TrOps.sem (.move (.inl ho) hx) hg hd hdN h
theorem TrOps.a {x : Operand} {d : Nat} (h : TrOps P N w0 O0 ops Q ((d, s) :: e) M rest) (ho : o.op = .assign x := by exact rfl) (hx : opS e x = some s := by exact rfl) (hg : o.guard = none := by exact rfl) (hd : o.dst = some d := by exact rfl) (hdN : d < N := by decide) : TrOps P N w0 O0 ops Q e M (o :: rest) := TrOps.sem (.move (.inr ho) hx) hg hd hdN h
theorem TrOps.gf {j d d' : Nat} {c : Bool} {oj : Oper} (hc : c = false) (h : TrOps P N w0 O0 ops Q ((d, .d (.v undef)) :: e) M rest) (hg : o.guard = some (j, true) := by exact rfl) (hj : ops[j]? = some oj := by exact rfl) (hdj : oj.dst = some d' := by exact rfl)
    (hb : look e d' = some (.d (.v (.bool c))) := by exact rfl) (hd : o.dst = some d := by exact rfl) (hdN : d < N := by decide) : TrOps P N w0 O0 ops Q e M (o :: rest) := TrOps.gF hg hj hdj hb hc hd hdN h
theorem TrOps.hf {j d d' : Nat} {c : Bool} {oj : Oper} (hc : c = true) (h : TrOps P N w0 O0 ops Q ((d, .d (.v undef)) :: e) M rest) (hg : o.guard = some (j, false) := by exact rfl) (hj : ops[j]? = some oj := by exact rfl) (hdj : oj.dst = some d' := by exact rfl)
    (hb : look e d' = some (.d (.v (.bool c))) := by exact rfl) (hd : o.dst = some d := by exact rfl) (hdN : d < N := by decide) : TrOps P N w0 O0 ops Q e M (o :: rest) := TrOps.gF hg hj hdj hb hc hd hdN h
theorem TrOps.gt {j d' : Nat} {c : Bool} {oj : Oper} (hc : c = true) (h : TrOps P N w0 O0 ops Q e M ({ o with guard := none } :: rest)) (hg : o.guard = some (j, true) := by exact rfl) (hj : ops[j]? = some oj := by exact rfl) (hdj : oj.dst = some d' := by exact rfl)
    (hb : look e d' = some (.d (.v (.bool c))) := by exact rfl) : TrOps P N w0 O0 ops Q e M (o :: rest) := TrOps.gT hg hj hdj hb hc h
theorem TrOps.ht {j d' : Nat} {c : Bool} {oj : Oper} (hc : c = false) (h : TrOps P N w0 O0 ops Q e M ({ o with guard := none } :: rest)) (hg : o.guard = some (j, false) := by exact rfl) (hj : ops[j]? = some oj := by exact rfl) (hdj : oj.dst = some d' := by exact rfl)
    (hb : look e d' = some (.d (.v (.bool c))) := by exact rfl) : TrOps P N w0 O0 ops Q e M (o :: rest) := TrOps.gT hg hj hdj hb hc h
theorem TrOps.gu {j d d' : Nat} {b : Bool} {oj : Oper} (h : TrOps P N w0 O0 ops Q ((d, .d (.v undef)) :: e) M rest) (hg : o.guard = some (j, b) := by exact rfl) (hj : ops[j]? = some oj := by exact rfl) (hdj : oj.dst = some d' := by exact rfl)
    (hb : look e d' = some (.d (.v undef)) := by exact rfl) (hd : o.dst = some d := by exact rfl) (hdN : d < N := by decide) : TrOps P N w0 O0 ops Q e M (o :: rest) := TrOps.gU hg hj hdj hb hd hdN h
theorem TrOps.sb {t : TypeId} {x y : Operand} {h k : Nat} {cs ss : List S} {g : Bool} (ht : vsz P t = some (g, ss.length)) (hn : TrOps P N w0 O0 ops Q e ((h, .box (cs.take k ++ ss ++ cs.drop (k + ss.length))) :: M) rest) (ho : o.op = .store t x y := by exact rfl) (hg : o.guard = none := by exact rfl) (hd : o.dst = none := by exact rfl)
    (hx : opS e x = some (.r h k) := by exact rfl) (hM : look M h = some (.box cs) := by exact rfl) (hy : opS e y = some s := by exact rfl) (hs : s.cells = some ss := by exact rfl) (hk : k + ss.length ≤ cs.length := by first | decide | simp) : TrOps P N w0 O0 ops Q e M (o :: rest) := TrOps.storeb ho hg hd hx hM hy hs ht hk hn
theorem TrOps.ap {x y : Operand} {t k h T d by_ : Nat} {rows rows2 : List (List D)} {zs : List Value} (hk : esz P t = some k) (hT : P.elem t = T) (hz : zcells P T = some zs) (hby : P.bytesOf T = by_) (hn : TrOps P N w0 O0 ops Q ((d, .o h) :: kill h e) ((h, .own k T (rows ++ rows2)) :: killM h M) rest)
    (ho : o.op = .call { callee := .builtin .append, args := #[x, y], argTypes := #[t, t] } := by exact rfl) (hg : o.guard = none := by exact rfl) (hd : o.dst = some d := by exact rfl) (hdN : d < N := by decide) (hx : opS e x = some (.o h) := by exact rfl) (hM : look M h = some (.own k T rows) := by exact rfl) (hy : opS e y = some (.d (.s k rows2)) := by exact rfl) (hzk : zs.length = k := by exact rfl)
    (hone : ∀ r, r ∈ rows2 → r.all D.one = true := by simp [D.one, Value.oneCell']) (hlen : (rows.length + rows2.length) ≤ maxLen := by simp [maxLen]; omega) (hroom : (rows.length + rows2.length) * by_ ≤ 140737488355328 := by simp; omega) : TrOps P N w0 O0 ops Q e M (o :: rest) := TrOps.append ho hg hd hdN hx hM hy hk hT hz hzk hby hone hlen hroom hn
/-- The next region. -/
theorem TrOps.z {id : Nat} {l : List Oper} {c : Code} (h : TrOps P N w0 O0 l.toArray (Exit.then (c.wp P Q) Q) e M l) : TrOps P N w0 O0 ops (Exit.then ((Code.seq (.region id l.toArray false) c).wp P Q) Q) e M [] := TrOps.nil (At.seq (Tr.seq (Tr.region h)))
theorem TrOps.y {id : Nat} {l : List Oper} (h : TrOps P N w0 O0 l.toArray Q e M l) : TrOps P N w0 O0 ops (Exit.then ((Code.region id l.toArray false).wp P Q) Q) e M [] := TrOps.nil (At.seq (Tr.region h))
theorem At.z {id : Nat} {l : List Oper} {c : Code} (h : TrOps P N w0 O0 l.toArray (Exit.then (c.wp P Q) Q) e M l) : At N w0 O0 e M .normal (Exit.then ((Code.seq (.region id l.toArray false) c).wp P Q) Q) := At.seq (Tr.seq (Tr.region h))
theorem At.y {id : Nat} {l : List Oper} (h : TrOps P N w0 O0 l.toArray Q e M l) : At N w0 O0 e M .normal (Exit.then ((Code.region id l.toArray false).wp P Q) Q) := At.seq (Tr.region h)
theorem TrOps.sq {c : Code} (h : Tr P N w0 O0 e M c Q) : TrOps P N w0 O0 ops (Exit.then (c.wp P Q) Q) e M [] := TrOps.nil (At.seq h)
variable {id : Nat} {hs : List Nat} {e0 : Env} {M0 : Mem} {ps : List PO}
theorem PC.x (hsem : OpSem P w0.heap.size o e (dropM hs M0) s none) {d : Nat} (h : PC P N w0 O0 id ops Q hs e0 M0 (ps ++ [⟨d, s, none, none, true⟩]) ((d, s) :: e) rest) (hg : o.guard = none := by exact rfl) (hd : o.dst = some d := by exact rfl) : PC P N w0 O0 id ops Q hs e0 M0 ps e (o :: rest) := PC.sem hsem hg hd h
theorem PC.m {x : Operand} {d : Nat} (h : PC P N w0 O0 id ops Q hs e0 M0 (ps ++ [⟨d, s, none, none, true⟩]) ((d, s) :: e) rest) (ho : o.op = .move x := by exact rfl) (hx : opS e x = some s := by exact rfl) (hg : o.guard = none := by exact rfl) (hd : o.dst = some d := by exact rfl) : PC P N w0 O0 id ops Q hs e0 M0 ps e (o :: rest) := PC.sem (.move (.inl ho) hx) hg hd h
theorem PC.gf {j d d' : Nat} {c : Bool} {oj : Oper} (hc : c = false) (h : PC P N w0 O0 id ops Q hs e0 M0 (ps ++ [⟨d, .d (.v undef), none, none, true⟩]) ((d, .d (.v undef)) :: e) rest) (hg : o.guard = some (j, true) := by exact rfl) (hj : ops[j]? = some oj := by exact rfl) (hdj : oj.dst = some d' := by exact rfl)
    (hb : look e d' = some (.d (.v (.bool c))) := by exact rfl) (hd : o.dst = some d := by exact rfl) : PC P N w0 O0 id ops Q hs e0 M0 ps e (o :: rest) := PC.gF hg hj hdj hb hc hd h
theorem PC.hf {j d d' : Nat} {c : Bool} {oj : Oper} (hc : c = true) (h : PC P N w0 O0 id ops Q hs e0 M0 (ps ++ [⟨d, .d (.v undef), none, none, true⟩]) ((d, .d (.v undef)) :: e) rest) (hg : o.guard = some (j, false) := by exact rfl) (hj : ops[j]? = some oj := by exact rfl) (hdj : oj.dst = some d' := by exact rfl)
    (hb : look e d' = some (.d (.v (.bool c))) := by exact rfl) (hd : o.dst = some d := by exact rfl) : PC P N w0 O0 id ops Q hs e0 M0 ps e (o :: rest) := PC.gF hg hj hdj hb hc hd h
theorem PC.gt {j d d' : Nat} {c : Bool} {oj : Oper} (hsem : OpSem P w0.heap.size o e (dropM hs M0) s none) (hc : c = true) (h : PC P N w0 O0 id ops Q hs e0 M0 (ps ++ [⟨d, s, none, none, true⟩]) ((d, s) :: e) rest) (hg : o.guard = some (j, true) := by exact rfl) (hj : ops[j]? = some oj := by exact rfl) (hdj : oj.dst = some d' := by exact rfl)
    (hb : look e d' = some (.d (.v (.bool c))) := by exact rfl) (hd : o.dst = some d := by exact rfl) : PC P N w0 O0 id ops Q hs e0 M0 ps e (o :: rest) := PC.gT hsem hg hj hdj hb hc hd h
theorem PC.ht {j d d' : Nat} {c : Bool} {oj : Oper} (hsem : OpSem P w0.heap.size o e (dropM hs M0) s none) (hc : c = false) (h : PC P N w0 O0 id ops Q hs e0 M0 (ps ++ [⟨d, s, none, none, true⟩]) ((d, s) :: e) rest) (hg : o.guard = some (j, false) := by exact rfl) (hj : ops[j]? = some oj := by exact rfl) (hdj : oj.dst = some d' := by exact rfl)
    (hb : look e d' = some (.d (.v (.bool c))) := by exact rfl) (hd : o.dst = some d := by exact rfl) : PC P N w0 O0 id ops Q hs e0 M0 ps e (o :: rest) := PC.gT hsem hg hj hdj hb hc hd h
theorem PC.d0 (hm : P.follows .mixedOrders = true) (ht : TrOps P N w0 O0 ops Q e M0 rest) (hok : parOk ops ps.length = true := by kernel_rfl) (hh : handOk e0 M0 ps = true := by kernel_rfl) (hso : stOk hs ps = true := by kernel_rfl) (hN : ps.all (fun p => !p.ds || decide (p.d < N)) = true := by kernel_rfl) (hM : finM M0 ps = M0 := by kernel_rfl) :
    PC P N w0 O0 id ops Q hs e0 M0 ps e rest := PC.done0 hm hok hh hso hN hM ht
theorem PC.d1 (h : Nat) (m : Mo) (hm : P.follows .mixedOrders = true) (ht : TrOps P N w0 O0 ops Q e ((h, m) :: M0) rest) (hok : parOk ops ps.length = true := by kernel_rfl) (hh : handOk e0 M0 ps = true := by kernel_rfl) (hso : stOk hs ps = true := by kernel_rfl) (hN : ps.all (fun p => !p.ds || decide (p.d < N)) = true := by kernel_rfl) (hM : finM M0 ps = (h, m) :: M0 := by kernel_rfl) :
    PC P N w0 O0 id ops Q hs e0 M0 ps e rest := PC.done1 h m hm hok hh hso hN hM ht
theorem PC.dn (hm : P.follows .mixedOrders = true) (ht : TrOps P N w0 O0 ops Q e (finM M0 ps) rest) (hok : parOk ops ps.length = true := by kernel_rfl) (hh : handOk e0 M0 ps = true := by kernel_rfl) (hso : stOk hs ps = true := by kernel_rfl) (hN : ps.all (fun p => !p.ds || decide (p.d < N)) = true := by kernel_rfl) :
    PC P N w0 O0 id ops Q hs e0 M0 ps e rest := PC.done hm hok hh hso hN ht
variable {e' : Env} {M' : Mem} {n : Nat} {L : List Bool}
theorem TrOps.j {i : Nat} {L' : List Bool} (h : TrL P N w0 O0 ops Q n L' e' M') (hL : L.set i true = L' := by exact rfl) (hs : Sub e M e' M' := by repeat' first | exact .nil | refine .slot rfl (.refl _) ?_ | refine .mem rfl ?_) : TrOps P N w0 O0 ops (nrm (wpAny P .any ops Q n (L.set i true).toArray)) e M [] := TrL.join h hL hs
theorem TrN.w (i : Nat) (ho : ops[i]? = some o := by exact rfl) (h : TrOps P N w0 O0 ops (nrm (wpAny P .any ops Q n (L.set i true).toArray)) e M [o]) : TrN P N w0 O0 ops Q n L e M i := ⟨o, ho, h⟩
theorem Sub.all (h : Sub e M e' M' := by repeat' first | exact .nil | refine .slot rfl (.refl _) ?_ | refine .mem rfl ?_) : Sub e M e' M' := h
theorem TrL.st (rs : List Nat) (h : EachI (TrN P N w0 O0 ops Q n L e M) rs) (hr : Region.ready .any ops L.toArray = rs := by kernel_rfl) (h0 : rs.isEmpty = false := by exact rfl) : TrL P N w0 O0 ops Q (n + 1) L e M := .step rs hr h0 h
end
end Go.Eng
end

section
/- Closed facts on the types of this translation. Written by gen.py. -/





namespace Go.Proofs.Ytlidcpmdgceboaa
open Go.Eng
theorem mixed : Try.prog.follows .mixedOrders = true := by kernel_rfl
theorem by22 : Try.prog.bytesOf 22 = 24 := by kernel_rfl
theorem by3 : Try.prog.bytesOf 3 = 8 := by kernel_rfl
theorem by4 : Try.prog.bytesOf 4 = 1 := by kernel_rfl
theorem bye105 : Try.prog.bytesOf (Try.prog.elem 105) = 1 := by kernel_rfl
theorem bye22 : Try.prog.bytesOf (Try.prog.elem 22) = 8 := by kernel_rfl
theorem cv124_3 : cvk Try.prog 124 3 = some .i64 := by kernel_rfl
theorem cv3_124 : cvk Try.prog 3 124 = some .u64 := by kernel_rfl
theorem el105 : Try.prog.elem 105 = 4 := by kernel_rfl
theorem el22 : Try.prog.elem 22 = 3 := by kernel_rfl
theorem el37 : Try.prog.elem 37 = 22 := by kernel_rfl
theorem es105 : esz Try.prog 105 = some 1 := by kernel_rfl
theorem es22 : esz Try.prog 22 = some 1 := by kernel_rfl
theorem es23 : esz Try.prog 23 = some 4 := by kernel_rfl
theorem es37 : esz Try.prog 37 = some 1 := by kernel_rfl
theorem fo25_0 : fof Try.prog 25 0 = some 0 := by kernel_rfl
theorem fo25_1 : fof Try.prog 25 1 = some 1 := by kernel_rfl
theorem fo25_2 : fof Try.prog 25 2 = some 2 := by kernel_rfl
theorem fo25_3 : fof Try.prog 25 3 = some 3 := by kernel_rfl
theorem fo28_0 : fof Try.prog 28 0 = some 0 := by kernel_rfl
theorem fo28_1 : fof Try.prog 28 1 = some 1 := by kernel_rfl
theorem fo30_0 : fof Try.prog 30 0 = some 0 := by kernel_rfl
theorem fo35_0 : fof Try.prog 35 0 = some 0 := by kernel_rfl
theorem fo35_1 : fof Try.prog 35 1 = some 1 := by kernel_rfl
theorem fo35_2 : fof Try.prog 35 2 = some 2 := by kernel_rfl
theorem fo35_3 : fof Try.prog 35 3 = some 3 := by kernel_rfl
theorem fo39_0 : fof Try.prog 39 0 = some 0 := by kernel_rfl
theorem fo39_1 : fof Try.prog 39 1 = some 1 := by kernel_rfl
theorem fo39_2 : fof Try.prog 39 2 = some 2 := by kernel_rfl
theorem fo59_0 : fof Try.prog 59 0 = some 0 := by kernel_rfl
theorem fo64_0 : fof Try.prog 64 0 = some 0 := by kernel_rfl
theorem fo64_1 : fof Try.prog 64 1 = some 1 := by kernel_rfl
theorem fo99_0 : fof Try.prog 99 0 = some 0 := by kernel_rfl
theorem fo99_1 : fof Try.prog 99 1 = some 1 := by kernel_rfl
theorem fo99_2 : fof Try.prog 99 2 = some 2 := by kernel_rfl
theorem io28 : intsOf Try.prog 28 2 = true := by kernel_rfl
theorem io30 : intsOf Try.prog 30 2 = true := by kernel_rfl
theorem pl25 : places Try.prog 25 = some [(0, 1), (1, 1), (2, 1), (3, 1)] := by kernel_rfl
theorem pl28 : places Try.prog 28 = some [(0, 1), (1, 1)] := by kernel_rfl
theorem pl30 : places Try.prog 30 = some [(0, 1), (1, 1)] := by kernel_rfl
theorem pl35 : places Try.prog 35 = some [(0, 1), (1, 1), (2, 1), (3, 1)] := by kernel_rfl
theorem pl39 : places Try.prog 39 = some [(0, 1), (1, 1), (2, 1)] := by kernel_rfl
theorem pl59 : places Try.prog 59 = some [(0, 1), (1, 1)] := by kernel_rfl
theorem pl64 : places Try.prog 64 = some [(0, 1), (1, 2), (3, 2), (5, 2), (7, 2)] := by kernel_rfl
theorem pl99 : places Try.prog 99 = some [(0, 1), (1, 1), (2, 1)] := by kernel_rfl
theorem vs22 : vsz Try.prog 22 = some (false, 1) := by kernel_rfl
theorem vs23 : vsz Try.prog 23 = some (false, 1) := by kernel_rfl
theorem vs25 : vsz Try.prog 25 = some (true, 4) := by kernel_rfl
theorem vs28 : vsz Try.prog 28 = some (true, 2) := by kernel_rfl
theorem vs3 : vsz Try.prog 3 = some (false, 1) := by kernel_rfl
theorem vs30 : vsz Try.prog 30 = some (true, 2) := by kernel_rfl
theorem vs35 : vsz Try.prog 35 = some (true, 4) := by kernel_rfl
theorem vs37 : vsz Try.prog 37 = some (false, 1) := by kernel_rfl
theorem vs39 : vsz Try.prog 39 = some (true, 3) := by kernel_rfl
theorem vs4 : vsz Try.prog 4 = some (false, 1) := by kernel_rfl
theorem vs59 : vsz Try.prog 59 = some (true, 2) := by kernel_rfl
theorem vs64 : vsz Try.prog 64 = some (true, 9) := by kernel_rfl
theorem zc22 : zcells Try.prog 22 = some [.slice none 0 0] := by kernel_rfl
theorem zc25 : zcells Try.prog 25 = some [.int .i64 0, .slice none 0 0, .slice none 0 0, .slice none 0 0] := by kernel_rfl
theorem zc28 : zcells Try.prog 28 = some [.int .i64 0, .int .i64 0] := by kernel_rfl
theorem zc3 : zcells Try.prog 3 = some [.int .i64 0] := by kernel_rfl
theorem zc30 : zcells Try.prog 30 = some [.int .i64 0, .int .i64 0] := by kernel_rfl
theorem zc35 : zcells Try.prog 35 = some [.slice none 0 0, .slice none 0 0, .slice none 0 0, .int .i64 0] := by kernel_rfl
theorem zc39 : zcells Try.prog 39 = some [.slice none 0 0, .slice none 0 0, .slice none 0 0] := by kernel_rfl
theorem zc4 : zcells Try.prog 4 = some [.bool false] := by kernel_rfl
theorem zc59 : zcells Try.prog 59 = some [.slice none 0 0, .int .i64 0] := by kernel_rfl
theorem zc64 : zcells Try.prog 64 = some [.int .i64 0, .int .i64 0, .int .i64 0, .slice none 0 0, .int .i64 0, .slice none 0 0, .int .i64 0, .slice none 0 0, .int .i64 0] := by kernel_rfl
theorem zc99 : zcells Try.prog 99 = some [.slice none 0 0, .slice none 0 0, .int .i64 0] := by kernel_rfl
theorem ze105 : zcells Try.prog (Try.prog.elem 105) = some [.bool false] := by kernel_rfl
theorem ze22 : zcells Try.prog (Try.prog.elem 22) = some [.int .i64 0] := by kernel_rfl
theorem ze23 : zcells Try.prog (Try.prog.elem 23) = some [.slice none 0 0, .slice none 0 0, .slice none 0 0, .int .i64 0] := by kernel_rfl
theorem ze37 : zcells Try.prog (Try.prog.elem 37) = some [.slice none 0 0] := by kernel_rfl
end Go.Proofs.Ytlidcpmdgceboaa
end

section
/- Walks, written by gen.py out of hints. -/

set_option linter.unusedVariables false
set_option linter.unusedSimpArgs false
namespace Go.Proofs.Ytlidcpmdgceboaa
open Go.Eng
set_option maxRecDepth 10000
set_option maxHeartbeats 1000000

theorem R_In_does (n a b : Int) : Does Try.prog false 37 [I (n), I (a), I (b)] (Bo (decide (a ≤ n ∧ n ≤ b))) := by
 refine Does.of_body Try.func37 rfl rfl (by simp) Try.call37 (fun w0 O0 => ?_); refine .seq ?_; refine .region ?_; refine .a ?_; refine .z ?_; refine .m ?_; refine .m ?_; refine .x (.b bgeq) ?_; refine .m ?_; refine .split (n := 10) rfl (fun c10 => ?_) (fun c10 => ?_)
 ·refine .gt c10 ?_; refine .m ?_; refine .gt c10 ?_; refine .m ?_; refine .gt c10 ?_; refine .x (.b bleq) ?_; refine .x (OpSem.pickT rfl rfl c10 rfl) ?_; refine .a ?_; refine .sq ?_; refine .ret ?_; exact .ret rfl (.tmp rfl <| .nil) rfl (Le.bo (by simp at *; omega))
 ·refine .gf c10 ?_; refine .gf c10 ?_; refine .gf c10 ?_; refine .x (OpSem.pickF rfl rfl c10 rfl) ?_; refine .a ?_; refine .sq ?_; refine .ret ?_; exact .ret rfl (.tmp rfl <| .nil) rfl (Le.bo (by simp at *; omega))

theorem R_At_does (a b : Int) : Does Try.prog false 15 [I (a), I (b)] (flt (a, b)) := by
 refine Does.of_body Try.func15 rfl rfl (by simp) Try.call15 (fun w0 O0 => ?_); refine .seq ?_; refine .region ?_; refine .semM (OpSem.alloc 4 rfl zc30 rfl) rfl rfl (by decide) ?_; refine .z ?_; refine .m ?_; refine .m ?_; refine .x (OpSem.build rfl rfl pl30 zc30 rfl rfl) ?_; refine .sb vs30 ?_; refine .sq ?_; refine .ret ?_; exact .ret rfl (.cellN rfl rfl vs30 <| .nil) rfl (.refl _)

theorem slices_IndexFunc_int_int_does (l : List Int) (fn : Nat) (cs : List S) (p : Int → Bool) (hcs : Caught cs) (hf : ∀ x, x ∈ l → Does Try.prog false fn ([I x] ++ cs) (Bo (p x))) : Does Try.prog false 101 [.d (ints l), .f fn [] cs] (I (findI p l)) := by
 refine Does.of_body Try.func101 rfl rfl (by simp) Try.call101 (fun w0 O0 => ?_); refine .lenLe (n := 0) rfl (fun len0 => ?_); refine .seq ?_; refine .region ?_; refine .a ?_; refine .sq ?_; refine .seq ?_; refine .seq ?_; refine .region ?_; refine .m ?_; refine .x (OpSem.lenL rfl rfl es22) ?_; refine .m ?_; refine .sq ?_; refine .block ?_; refine .loop (X := Nat) (fun k => k ≤ l.length ∧ ∀ j : Nat, j < k → p (nth l j) = false) (fun k => [(0, .d (ints l)), (1, .f fn [] cs), (7, I (l.length)), (8, I (k))]) (fun k => []) (fun k => l.length - k) 0 ⟨by omega, by simp⟩ ?_ ?_
 ·exact .slot rfl (.refl _) <| .slot rfl (.refl _) <| .slot rfl (.refl _) <| .slot rfl (Le.of_eq (by simp)) <| .nil
 ·rintro k ⟨hkl, hinv⟩
  refine .seq ?_; refine .region ?_; refine .x (.b blss) ?_; refine .sq ?_; refine .seq ?_; refine .cond rfl (fun c9 => ?_) (fun c9 => ?_)
  ·have hk : k < l.length := by simpa using c9
   refine .skip ?_; refine .seq ?_; refine .seq ?_; refine .block ?_; refine .seq ?_; refine .region ?_; refine .m ?_; refine .a ?_; refine .z ?_; refine .m ?_; refine .m ?_; refine .m ?_; refine .x (OpSem.idxL rfl rfl rfl es22 (by omega) (by omega)) ?_; refine .x (OpSem.load1 rfl rfl vs3 rfl) ?_; refine .x (OpSem.call0 (hf _ (nth_mem (by omega) (by omega))) rfl rfl rfl (hcs.app rfl) (Les.refl _)) ?_; refine .sq ?_; refine .cond rfl (fun c16 => ?_) (fun c16 => ?_)
   ·refine .seq ?_; refine .region ?_; refine .m ?_; refine .a ?_; refine .sq ?_; refine .ret ?_; refine .block_ret ?_; refine .pass_ret ?_; refine .pass_ret ?_; refine .block_ret ?_; refine .pass_ret ?_; exact .ret rfl (.tmp rfl <| .nil) rfl (Le.i (findI_some hk hinv c16).symm)
   ·refine .skip ?_; refine .block_normal ?_; refine .y ?_; refine .x .ad ?_; refine .m ?_; refine .nil ?_; refine .again (k + 1) ⟨by omega, all_succ hinv c16⟩ ?_ (by omega); exact .slot rfl (.refl _) <| .slot rfl (.refl _) <| .slot rfl (.refl _) <| .slot rfl (Le.of_eq (by simp)) <| .nil
  ·have hk : k = l.length := by simp at c9; omega
   refine .exit ?_; refine .pass_exit ?_; refine .pass_exit ?_; refine .block_same ?_; refine .z ?_; refine .a ?_; refine .sq ?_; refine .ret ?_; exact .ret rfl (.tmp rfl <| .nil) rfl (Le.i (by subst hk; exact (findI_none hinv).symm))

theorem slices_ContainsFunc_int_int_does (l : List Int) (fn : Nat) (cs : List S) (p : Int → Bool) (hcs : Caught cs) (hf : ∀ x, x ∈ l → Does Try.prog false fn ([I x] ++ cs) (Bo (p x))) : Does Try.prog false 97 [.d (ints l), .f fn [] cs] (Bo (l.any p)) := by
 refine Does.of_body Try.func97 rfl rfl (by simp) Try.call97 (fun w0 O0 => ?_); refine .lenLe (n := 0) rfl (fun len0 => ?_); refine .seq ?_; refine .region ?_; refine .a ?_; refine .z ?_; refine .m ?_; refine .m ?_; refine .x (OpSem.call0 (slices_IndexFunc_int_int_does l fn cs p hcs hf) rfl rfl rfl (hcs.arg rfl) (Les.refl _)) ?_; refine .x (.b bgeq) ?_; refine .a ?_; refine .sq ?_; refine .ret ?_; exact .ret rfl (.tmp rfl <| .nil) rfl (Le.bo findI_any)

end Go.Proofs.Ytlidcpmdgceboaa
end

section
/- Weights of values: what is computed. -/

set_option linter.unusedVariables false
set_option linter.unusedSimpArgs false
namespace Go.Eng

abbrev RowOk (r : List Int) : Prop := ∀ x : Nat, x < r.length → -1000000 ≤ nth r x ∧ nth r x ≤ 1000000
abbrev LensP (sizes : List Int) (w : List (List Int)) : Prop := ∀ v : Nat, v < w.length → ((nth w v).length : Int) = nth sizes v
abbrev RowsP (w : List (List Int)) : Prop := ∀ v : Nat, v < w.length → RowOk (nth w v)
/-- The error code of weights. -/
def wcode (sizes : List Int) (w : List (List Int)) : Int :=
  if w.length ≠ sizes.length then 9 else if ¬ LensP sizes w then 9 else if ¬ RowsP w then 3 else 0
def wfault (sizes : List Int) (w : List (List Int)) (i : Int) : Int × Int := if wcode sizes w = 0 then (0, 0) else (wcode sizes w, i)
def goodTo (w : List (List Int)) (k : Nat) : Bool := decide (∀ v : Nat, v < k → RowOk (nth w v))
def goodIn (w : List (List Int)) (k j : Nat) : Bool := goodTo w k && decide (∀ x : Nat, x < j → -1000000 ≤ nth (nth w k) x ∧ nth (nth w k) x ≤ 1000000)
/-- The greatest of the first k + 1 numbers. -/
def lmaxTo (l : List Int) : Nat → Int
  | 0 => nth l 0
  | k + 1 => max (lmaxTo l k) (nth l (k + 1 : Nat))
def lmax (l : List Int) : Int := lmaxTo l (l.length - 1)
/-- The greatest weight of variable v where some assignments hold. -/
def greatest (w : List (List Int)) (v : Int) (l : List Asg) : Int :=
  match firstBad l.length (fun i => decide ((nth l i).1 ≠ v)) with
  | some i => nth (nth w v) (nth l i).2
  | none => lmax (nth w v)
/-- What a valid task gives. -/
structure Valid (m : Multi) : Prop where
  len : 1 ≤ m.sizes.length ∧ m.sizes.length ≤ 8
  sizes : SizesP m.sizes
  init : StateP m.sizes m.init
  goal : AsgsP m.sizes m.goal
  opsLen : m.ops.length ≤ 40
  op : ∀ i : Nat, i < m.ops.length → AsgsP m.sizes (nth m.ops i).pre ∧ AsgsP m.sizes (nth m.ops i).post ∧ 0 ≤ (nth m.ops i).cost ∧ (nth m.ops i).cost ≤ 100
/-- Fitting weights. -/
structure WOk (sizes : List Int) (w : List (List Int)) : Prop where
  len : w.length = sizes.length
  lens : LensP sizes w
  rows : RowsP w
theorem WOk.row {sizes : List Int} {w : List (List Int)} (h : WOk sizes w) {v x : Int} (h0 : 0 ≤ v) (h1 : v < sizes.length) (h2 : 0 ≤ x) (h3 : x < nth sizes v) : x < (nth w v).length ∧ -1000000 ≤ nth (nth w v) x ∧ nth (nth w v) x ≤ 1000000 := by
  have e := h.lens v.toNat (by have := h.len; omega)
  have r := h.rows v.toNat (by have := h.len; omega) x.toNat
  rw [Int.toNat_of_nonneg h0] at e r
  rw [Int.toNat_of_nonneg h2] at r
  exact ⟨by omega, r (by omega)⟩
/-- What is left of an operator's cost behind its first k assignments. -/
def slackTo (w : List (List Int)) (o : MOp) : Nat → Int
  | 0 => o.cost
  | k + 1 => slackTo w o k - (greatest w (nth o.post k).1 o.pre - nth (nth w (nth o.post k).1) (nth o.post k).2)
def slack (w : List (List Int)) (o : MOp) : Int := slackTo w o o.post.length
def goalTo (w : List (List Int)) (l : List Asg) : Nat → Int
  | 0 => 0
  | k + 1 => goalTo w l k + greatest w k l
def goalMax (w : List (List Int)) (l : List Asg) : Int := goalTo w l w.length
/-- The value of a state, up to a variable. -/
def valTo (w : List (List Int)) (s : List Int) : Nat → Int
  | 0 => 0
  | k + 1 => valTo w s k + nth (nth w k) (nth s k)
def val (w : List (List Int)) (s : List Int) : Int := valTo w s s.length
/-- The second fault where there is no first one. -/
def thenF (f g : Int × Int) : Int × Int := if f = (0, 0) then g else f
def valFault (m : Multi) (w : List (List Int)) (s : List Int) : Int × Int := thenF (stateFault m s) (wfault m.sizes w (-8))
def valRes (m : Multi) (w : List (List Int)) (s : List Int) : Int := if valFault m w s = (0, 0) then val w s else 0
/-- Weights are checked behind a fault. -/
def addW (f : Int × Int) (sizes : List Int) (w : List (List Int)) (i : Int) : Int × Int := if f.1 = 0 ∧ wcode sizes w ≠ 0 then (wcode sizes w, i) else f
def potFault (m : Multi) (w : List (List Int)) (i : Int) : Int × Int := if validate m = (0, 0) then wfault m.sizes w i else validate m
def slackRes (m : Multi) (w : List (List Int)) : List Int × Int × (Int × Int) :=
  if potFault m w (-8) = (0, 0) then (m.ops.map (slack w), goalMax w m.goal, (0, 0)) else ([], 0, potFault m w (-8))
def adm (m : Multi) (w : List (List Int)) : Bool := decide ((slackRes m w).2.2 = (0, 0)) && (decide ((slackRes m w).2.1 ≤ 0) && !((slackRes m w).1.any fun n => decide (n < 0)))
end Go.Eng
end

section
/- Walks, written by gen.py out of hints. -/



set_option linter.unusedVariables false
set_option linter.unusedSimpArgs false
namespace Go.Proofs.Ytlidcpmdgceboaa
open Go.Eng
set_option maxRecDepth 10000
set_option maxHeartbeats 1000000



end Go.Proofs.Ytlidcpmdgceboaa
end

section
/- Plain functions behind potential's laws: the faults of a list of weights, the best of them, the worked example. Plain functions: a state behind an operator. Plain laws of potential's functions: an operator lowers the value by no more than its cost less its slack. -/

set_option linter.unusedVariables false
set_option linter.unusedSimpArgs false
namespace Go.Eng
open Go

/-- The first fault of a list of weights, behind a fault. -/
def addTo (g : Int × Int) (sizes : List Int) (l : List (List (List Int))) : Nat → Int × Int
  | 0 => g
  | k + 1 => addW (addTo g sizes l k) sizes (nth l k) k
def baseF (m : Multi) (l : List (List (List Int))) (s : List Int) : Int × Int :=
  if (stateFault m s).1 = 0 ∧ ¬ (1 ≤ l.length ∧ l.length ≤ 6) then (9, -9) else stateFault m s
def bestF (m : Multi) (l : List (List (List Int))) (s : List Int) : Int × Int := addTo (baseF m l s) m.sizes l l.length
/-- The first of the greatest. -/
def bestTo (f : Nat → Int) : Nat → Nat
  | 0 => 0
  | k + 1 => if f (bestTo f k) < f k then k else bestTo f k
abbrev valL (l : List (List (List Int))) (s : List Int) (i : Nat) : Int := val (nth l i) s
def bestI (l : List (List (List Int))) (s : List Int) : Nat := bestTo (valL l s) l.length
def bestRes (m : Multi) (l : List (List (List Int))) (s : List Int) : Int × Int × (Int × Int) :=
  if bestF m l s = (0, 0) then ((bestI l s : Int), val (nth l (bestI l s)) s, (0, 0)) else (0, 0, bestF m l s)
theorem ext_nth {α : Type} [Inhabited α] {a b : List α} (hl : a.length = b.length) (h : ∀ i : Nat, i < a.length → nth a i = nth b i) : a = b := by
  apply List.ext_getElem hl
  intro i h1 h2
  have := h i h1
  rwa [nth_eq h1, nth_eq h2] at this
def lampsM : Multi := ⟨[2, 2], [0, 0], [(0, 1), (1, 1)], [⟨[], [(0, 1)], 2⟩, ⟨[], [(1, 1)], 3⟩]⟩
def exW : List (List Int) := [[2, 0], [3, 0]]
/-- The slot holds what is less said. -/
theorem TrOps.weak {P : Program} {N : Nat} {w0 : World} {O0 : Nat → Nat} {ops : Array Oper} {Q : Post} {e : Env} {M : Mem} {rest : List Oper} {s s' : S} (n : Nat) (hn : look e n = some s) (hl : Le s s') (h : TrOps P N w0 O0 ops Q ((n, s') :: e) M rest) : TrOps P N w0 O0 ops Q e M rest := by
  intro O H a w hst
  refine h O H a w ⟨hst.df, hst.sz, hst.bl, hst.lab, fun k t hk => ?_, hst.mem⟩
  rcases look_cons hk with ⟨rfl, rfl⟩ | ⟨_, hk⟩
  · obtain ⟨x, hx, hr⟩ := hst.slots _ _ hn
    exact ⟨x, hx, hl _ _ _ _ hr⟩
  · exact hst.slots k t hk
theorem Tr.weak {P : Program} {N : Nat} {w0 : World} {O0 : Nat → Nat} {Q : Post} {e : Env} {M : Mem} {c : Code} {s s' : S} (n : Nat) (hn : look e n = some s) (hl : Le s s') (h : Tr P N w0 O0 ((n, s') :: e) M c Q) : Tr P N w0 O0 e M c Q := by
  intro O H a w hst
  refine h O H a w ⟨hst.df, hst.sz, hst.bl, hst.lab, fun k t hk => ?_, hst.mem⟩
  rcases look_cons hk with ⟨rfl, rfl⟩ | ⟨_, hk⟩
  · obtain ⟨x, hx, hr⟩ := hst.slots _ _ hn
    exact ⟨x, hx, hl _ _ _ _ hr⟩
  · exact hst.slots k t hk
end Go.Eng

set_option linter.unusedVariables false
set_option linter.unusedSimpArgs false
namespace Go.Eng
open Go

theorem rows_get {α : Type} [Inhabited α] {l : List α} {f : α → List D} {n : Int} (h0 : 0 ≤ n) (h1 : n < l.length) : (l.map f)[n.toNat]? = some (f (nth l n)) := by
  have hk : n.toNat < l.length := by omega
  simp only [List.getElem?_map, List.getElem?_eq_getElem hk, Option.map_some]
  rw [← nth_eq hk, Int.toNat_of_nonneg h0]
/-- A list with one place set. -/
def setI {α : Type} (l : List α) (i : Int) (v : α) : List α := l.set i.toNat v
theorem rows_set {α : Type} {l : List α} {f : α → List D} {i : Nat} {v : α} : (l.map f).set i (f v) = (l.set i v).map f := by rw [List.map_set]
theorem setI_len {α : Type} {l : List α} {i : Int} {v : α} : (setI l i v).length = l.length := by simp [setI]
theorem nth_setI {α : Type} [Inhabited α] {l : List α} {i : Int} {v : α} {n : Int} (h0 : 0 ≤ n) (h1 : n < l.length) (hi : 0 ≤ i) : nth (setI l i v) n = if n = i then v else nth l n := by
  have e1 : nth (setI l i v) n = nth (setI l i v) (n.toNat : Int) := by rw [Int.toNat_of_nonneg h0]
  have e2 : nth l n = nth l (n.toNat : Int) := by rw [Int.toNat_of_nonneg h0]
  rw [e1, e2, nth_eq (by rw [setI_len]; omega), nth_eq (by omega)]
  simp only [setI, List.getElem_set]
  by_cases h : n = i
  · rw [if_pos (by rw [h]), if_pos h]
  · rw [if_neg (by omega), if_neg h]
/-- The state behind the first k assignments. -/
def nextTo (s : List Int) (l : List Asg) : Nat → List Int
  | 0 => s
  | k + 1 => setI (nextTo s l k) (nth l k).1 (nth l k).2
def nextS (s : List Int) (l : List Asg) : List Int := nextTo s l l.length
/-- All assignments hold in the state. -/
def holds (s : List Int) (l : List Asg) : Bool := !(l.any fun a => !decide (nth s a.1 = a.2))
theorem caught_p (l : List D) : Caught [.p l] := by
  intro n hn
  obtain ⟨m, rfl⟩ : ∃ m, n = m + 1 := ⟨n - 1, by omega⟩
  rfl
/-- An operator applied: the fault, and the state behind it. -/
def applyF (m : Multi) (s : List Int) (op : Int) : Int × Int :=
  if stateFault m s = (0, 0) then
    if op < 0 ∨ m.ops.length ≤ op then (3, -6) else if holds s (nth m.ops op).pre = true then (0, 0) else (11, op)
  else stateFault m s
def applyS (m : Multi) (s : List Int) (op : Int) : List Int := if applyF m s op = (0, 0) then nextS s (nth m.ops op).post else []
end Go.Eng

set_option linter.unusedVariables false
set_option linter.unusedSimpArgs false
namespace Go.Eng
open Go

/-- What the first k assignments of a list change. -/
def gain (w : List (List Int)) (s : List Int) (l : List Asg) : Nat → Int
  | 0 => 0
  | k + 1 => gain w s l k + (nth (nth w (nth l k).1) (nth s (nth l k).1) - nth (nth w (nth l k).1) (nth l k).2)
end Go.Eng
end

section
/- Walks, written by gen.py out of hints. -/



set_option linter.unusedVariables false
set_option linter.unusedSimpArgs false
namespace Go.Proofs.Ytlidcpmdgceboaa
open Go.Eng
set_option maxRecDepth 10000
set_option maxHeartbeats 1000000

theorem R_Ints_does (a b : List Int) : Does Try.prog false 26 [.d (ints a), .d (ints b)] (Bo (decide (a = b))) := by
 refine Does.of_body Try.func26 rfl rfl (by simp) Try.call26 (fun w0 O0 => ?_); refine .lenLe (n := 0) rfl (fun len0 => ?_); refine .lenLe (n := 1) rfl (fun len1 => ?_); refine .seq ?_; refine .region ?_; refine .a ?_; refine .sq ?_; refine .seq ?_; refine .seq ?_; refine .region ?_; refine .m ?_; refine .x (OpSem.lenL rfl rfl es22) ?_; refine .m ?_; refine .x (OpSem.lenL rfl rfl es22) ?_; refine .x (.b bneq) ?_; refine .sq ?_; refine .cond rfl (fun c10 => ?_) (fun c10 => ?_)
 ·have hl : a.length ≠ b.length := by simp at c10; omega
  refine .seq ?_; refine .region ?_; refine .a ?_; refine .sq ?_; refine .ret ?_; refine .pass_ret ?_; exact .ret rfl (.tmp rfl <| .nil) rfl (Le.bo (by simp; intro e; exact hl (by rw [e])))
 ·have hl : a.length = b.length := by simp at c10; omega
  refine .skip ?_; refine .seq ?_; refine .seq ?_; refine .seq ?_; refine .region ?_; refine .a ?_; refine .sq ?_; refine .block ?_; refine .loop (X := Nat) (fun k => k ≤ a.length ∧ ∀ i : Nat, i < k → nth a i = nth b i) (fun k => [(0, .d (ints a)), (1, .d (ints b)), (5, I (k))]) (fun k => []) (fun k => a.length - k) 0 ⟨by omega, by simp⟩ ?_ ?_
  ·exact .slot rfl (.refl _) <| .slot rfl (.refl _) <| .slot rfl (Le.of_eq (by simp)) <| .nil
  ·rintro k ⟨hkl, hinv⟩
   refine .seq ?_; refine .seq ?_; refine .region ?_; refine .m ?_; refine .m ?_; refine .x (OpSem.lenL rfl rfl es22) ?_; refine .x (.b blss) ?_; refine .sq ?_; refine .cond rfl (fun c14 => ?_) (fun c14 => ?_)
   ·have hk : k < a.length := by simpa using c14
    refine .skip ?_; refine .seq ?_; refine .seq ?_; refine .block ?_; refine .seq ?_; refine PC.start [] ?_; refine .m ?_; refine .m ?_; refine .x (OpSem.idxL rfl rfl rfl es22 (by omega) (by omega)) ?_; refine .x (OpSem.load1 rfl rfl vs3 rfl) ?_; refine .m ?_; refine .m ?_; refine .x (OpSem.idxL rfl rfl rfl es22 (by omega) (by omega)) ?_; refine .x (OpSem.load1 rfl rfl vs3 rfl) ?_; refine .d0 mixed ?_; refine .x (.b bneq) ?_; refine .sq ?_; refine .cond rfl (fun c25 => ?_) (fun c25 => ?_)
    ·refine .seq ?_; refine .region ?_; refine .a ?_; refine .sq ?_; refine .ret ?_; refine .block_ret ?_; refine .pass_ret ?_; refine .pass_ret ?_; refine .block_ret ?_; refine .pass_ret ?_; exact .ret rfl (.tmp rfl <| .nil) rfl (Le.bo (by simp; intro e; simp [e] at c25))
    ·have hb : nth a k = nth b k := by simpa using c25
     refine .skip ?_; refine .block_normal ?_; refine .y ?_; refine .m ?_; refine .x .ad ?_; refine .a ?_; refine .nil ?_; refine .again (k + 1) ⟨by omega, all_succ hinv hb⟩ ?_ (by omega); exact .slot rfl (.refl _) <| .slot rfl (.refl _) <| .slot rfl (Le.of_eq (by simp)) <| .nil
   ·have hk : k = a.length := by simp at c14; omega
    refine .exit ?_; refine .pass_exit ?_; refine .pass_exit ?_; refine .block_same ?_; refine .z ?_; refine .a ?_; refine .sq ?_; refine .ret ?_; exact .ret rfl (.tmp rfl <| .nil) rfl (Le.bo (by simp; subst hk; exact ext_nth hl hinv))

end Go.Proofs.Ytlidcpmdgceboaa
end

section
/- Walks, written by gen.py out of hints. -/




set_option linter.unusedVariables false
set_option linter.unusedSimpArgs false
namespace Go.Proofs.Ytlidcpmdgceboaa
open Go.Eng
set_option maxRecDepth 10000
set_option maxHeartbeats 1000000

theorem slices_Clone_int_int_does (l : List Int) (hl : l.length ≤ 1000000) : DoesO Try.prog 36 [.d (ints l)] 1 3 ((l.map fun n => [D.v (.int .i64 n)])) := by
 refine DoesO.of_body Try.func36 rfl rfl (by simp) Try.call36 (fun w0 O0 => ?_); refine .lenLe (n := 0) rfl (fun len0 => ?_); refine .seq ?_; refine .region ?_; refine .a ?_; refine .sq ?_; refine .seq ?_; refine .seq ?_; refine .region ?_; refine .m ?_; refine .eqNil rfl rfl es22 rfl rfl (by decide) (fun b4 hb4 => ?_); refine .sq ?_; refine .cond rfl (fun c4 => ?_) (fun c4 => ?_)
 ·refine .seq ?_; refine .region ?_; refine .a ?_; refine .sq ?_; refine .ret ?_; refine .pass_ret ?_; exact .retONil rfl rfl (hb4 c4)
 ·refine .skip ?_; refine .z ?_; refine .semM (OpSem.buildO 5 rfl es22 (by decide)) rfl rfl (by decide) ?_; refine .m ?_; refine .ap es22 el22 zc3 by3 ?_; refine .a ?_; refine .sq ?_; refine .ret ?_; exact .retO2 rfl rfl rfl (by simp) (by simp)

theorem R_Copy_does (l : List Int) (hl : l.length ≤ 1000000) : DoesO Try.prog 91 [.d (ints l)] 1 3 ((l.map fun n => [D.v (.int .i64 n)])) := by
 refine DoesO.of_body Try.func91 rfl rfl (by simp) Try.call91 (fun w0 O0 => ?_); refine .lenLe (n := 0) rfl (fun len0 => ?_); refine .seq ?_; refine .region ?_; refine .a ?_; refine .z ?_; refine .a ?_; refine .sq ?_; refine .seq ?_; refine .ownNil (n := 3) 3 1 3 rfl ?_; refine .region ?_; refine .m ?_; refine .m ?_; refine .ap es22 el22 zc3 by3 ?_; refine .a ?_; refine .sq ?_; refine .ret ?_; exact .retO2 rfl rfl rfl (by simp) (by simp)

end Go.Proofs.Ytlidcpmdgceboaa
end

section
/- Ranks of states; the least slack and the greatest goal value over all states. -/

set_option linter.unusedVariables false
set_option linter.unusedSimpArgs false
namespace Go.Eng
open Go Go.RowKit

theorem DoesO.fresh {P : Program} {f : Nat} {args : List S} {k T : Nat} {rows : List (List D)} (h : DoesO P f args k T rows) : Does P true f args (.d (.s k rows)) :=
  ⟨h.can, fun O w xs hl hx => (h.run O w xs hl hx).mono fun en w' ⟨x, he, hb, hr⟩ => ⟨x, he, hb, by
    rcases hr with ⟨rfl, rfl⟩ | ⟨b, cap, xs', rfl, hB, hbl, hlc, hcm, hsz, hw, hc⟩
    · exact .d _ _ (.e none 0 k (by simp [maxLen]))
    · refine .d _ _ (.s b 0 cap k rows (fun n => (xs'[n]?).getD undef) hlc hcm hw (fun _ _ _ _ _ _ => by simp [freshO, Fr, hB]) (fun i r j d hi hj => ?_) (fun i r j d hi hj => ?_))
      · obtain ⟨y, hy, _⟩ := hc i r j d hi hj
        rw [cellOf hbl (by rw [Nat.zero_add]; exact hy), hy]; rfl
      · obtain ⟨y, hy, rfl, _⟩ := hc i r j d hi hj
        simp only [hy, Option.getD_some]
        exact .v _⟩⟩

def ranksTo (sizes : List Int) : Nat → Int
  | 0 => 1
  | k + 1 => ranksTo sizes k * nth sizes k
def ranks (sizes : List Int) : Int := ranksTo sizes sizes.length
/-- What is left of a number behind j digits. -/
def quoTo (sizes : List Int) (n : Int) : Nat → Int
  | 0 => n
  | j + 1 => quoTo sizes n j / nth sizes (sizes.length - 1 - j : Nat)
def digit (sizes : List Int) (n : Int) (v : Nat) : Int := quoTo sizes n (sizes.length - 1 - v) % nth sizes v
def unrank (sizes : List Int) (n : Int) : List Int := (List.range sizes.length).map fun (v : Nat) => digit sizes n v
/-- The digits, but for the first few. -/
def unrTo (sizes : List Int) (n : Int) (j : Nat) : List Int := (List.range sizes.length).map fun (v : Nat) => if sizes.length - j ≤ v then digit sizes n v else 0
def rankTo (sizes s : List Int) : Nat → Int
  | 0 => 0
  | k + 1 => rankTo sizes s k * nth sizes k + nth s k
def rank (sizes s : List Int) : Int := rankTo sizes s s.length
/-! ### Over all states -/
def leastTo (p : List Int → Bool) (f : List Int → Int) (sizes : List Int) : Nat → Int
  | 0 => 1000000000
  | n + 1 => if p (unrank sizes n) = true then min (leastTo p f sizes n) (f (unrank sizes n)) else leastTo p f sizes n
def greatTo (p : List Int → Bool) (f : List Int → Int) (sizes : List Int) : Nat → Int
  | 0 => -1000000000
  | n + 1 => if p (unrank sizes n) = true then max (greatTo p f sizes n) (f (unrank sizes n)) else greatTo p f sizes n
section
variable {p : List Int → Bool} {f : List Int → Int} {sizes : List Int}
end
def slackAt (w : List (List Int)) (o : MOp) (s : List Int) : Int := o.cost - val w s + val w (nextS s o.post)
def leastSlack (m : Multi) (w : List (List Int)) (o : MOp) (n : Nat) : Int := leastTo (fun s => holds s o.pre) (slackAt w o) m.sizes n
def greatGoal (m : Multi) (w : List (List Int)) (n : Nat) : Int := greatTo (fun s => holds s m.goal) (val w) m.sizes n
end Go.Eng
end

section
/- Walks, written by gen.py out of hints. -/



set_option linter.unusedVariables false
set_option linter.unusedSimpArgs false
namespace Go.Proofs.Ytlidcpmdgceboaa
open Go.Eng
set_option maxRecDepth 10000
set_option maxHeartbeats 1000000



end Go.Proofs.Ytlidcpmdgceboaa
end

section
/- The costs of all states: the sweeps, and what bounds them from below. Plain functions behind project's laws: patterns and what they leave. -/

set_option linter.unusedVariables false
set_option linter.unusedSimpArgs false
set_option linter.unusedSectionVars false
namespace Go.Eng
open Go

abbrev stAt (m : Multi) (n : Nat) : List Int := unrank m.sizes n
/-- The rank behind an operator. -/
def rkAt (m : Multi) (n j : Nat) : Int := rank m.sizes (nextS (stAt m n) (nth m.ops j).post)
def initC (m : Multi) (k : Nat) : List Int := (List.range k).map fun n => if holds (stAt m n) m.goal = true then 0 else 1000000000
def stepC (m : Multi) (c : List Int × Bool) (n j : Nat) : List Int × Bool :=
  if holds (stAt m n) (nth m.ops j).pre = true then
    if nth c.1 (rkAt m n j) < 1000000000 ∧ nth c.1 (rkAt m n j) + (nth m.ops j).cost < nth c.1 n then (setI c.1 n (nth c.1 (rkAt m n j) + (nth m.ops j).cost), true) else c
  else c
def opsTo (m : Multi) (c : List Int × Bool) (n : Nat) : Nat → List Int × Bool
  | 0 => c
  | j + 1 => stepC m (opsTo m c n j) n j
def sweepTo (m : Multi) (c : List Int) : Nat → List Int × Bool
  | 0 => (c, false)
  | n + 1 => opsTo m (sweepTo m c n) n m.ops.length
def nR (m : Multi) : Nat := (ranks m.sizes).toNat
def sweep (m : Multi) (c : List Int) : List Int × Bool := sweepTo m c (nR m)
def itC (m : Multi) : Nat → List Int
  | 0 => initC m (nR m)
  | j + 1 => (sweep m (itC m j)).1
open Classical in
noncomputable def costs (m : Multi) : List Int := if h : ∃ j, (sweep m (itC m j)).2 = false then itC m (Classical.choose h) else List.replicate (nR m) 1000000000

section
variable {m : Multi} (hv : Valid m)
include hv
def GoodC (m : Multi) (c : List Int) : Prop := c.length = nR m ∧ ∀ n : Int, 0 ≤ n → n < nR m → 0 ≤ nth c n ∧ nth c n ≤ 1000000000
end

/-! ### The sum goes down -/
theorem sum_nn : ∀ {l : List Int}, (∀ x, x ∈ l → 0 ≤ x) → 0 ≤ l.sum
  | [], _ => by simp
  | a :: l, h => by
    have h1 := h a (by simp)
    have h2 := sum_nn (l := l) (fun x hx => h x (by simp [hx]))
    simp only [List.sum_cons]
    omega
/-- Behind c0, with the flag: nothing has changed, or the sum is less. -/
def Down (c0 : List Int) (c : List Int × Bool) : Prop := (c.2 = false ∧ c.1 = c0) ∨ (c.2 = true ∧ c.1.sum < c0.sum)
section
variable {m : Multi} (hv : Valid m)
include hv
omit hv in
theorem itC_stay {j : Nat} (h : (sweep m (itC m j)).2 = false) (he : itC m (j + 1) = itC m j) : ∀ d, itC m (j + d) = itC m j
  | 0 => rfl
  | d + 1 => by
    have ih := itC_stay h he d
    show (sweep m (itC m (j + d))).1 = _
    rw [ih]; exact he
end

/-! ### The walk's words -/
/-- Is another sweep due? -/
def flagC (m : Multi) : Nat → Bool
  | 0 => true
  | j + 1 => (sweep m (itC m j)).2
section
variable {m : Multi} (hv : Valid m)
include hv
end
end Go.Eng

set_option linter.unusedVariables false
set_option linter.unusedSimpArgs false
set_option linter.unusedSectionVars false
namespace Go.Eng
open Go

abbrev PatOk (sizes vars : List Int) (i : Nat) : Prop := 0 ≤ nth vars i ∧ nth vars i < sizes.length ∧ (0 < i → nth vars (i - 1 : Int) < nth vars i)
abbrev PatP (sizes vars : List Int) : Prop := ∀ i : Nat, i < vars.length → PatOk sizes vars i
def patCode (sizes vars : List Int) : Int := if vars.length = 0 then 9 else if ¬ PatP sizes vars then 5 else 0
def patFault (sizes vars : List Int) (i : Int) : Int × Int := if patCode sizes vars = 0 then (0, 0) else (patCode sizes vars, i)
/-- The places of a pattern, out of a list. -/
def sel (s vars : List Int) : List Int := vars.map fun v => nth s v
def selTo (s vars : List Int) (k : Nat) : List Int := (List.range k).map fun (i : Nat) => nth s (nth vars i)
/-- The fault of a task and a pattern. -/
def projFault (m : Multi) (vars : List Int) : Int × Int := if validate m = (0, 0) then patFault m.sizes vars (-8) else validate m
def prodTo (sizes vars : List Int) : Nat → Int
  | 0 => 1
  | k + 1 => prodTo sizes vars k * nth sizes (nth vars k)
/-- An assignment under a pattern: at the places of its variable. -/
def matchR (a : Asg) (vars : List Int) : Nat → List Asg
  | 0 => []
  | j + 1 => if a.1 = nth vars j then matchR a vars j ++ [((j : Int), a.2)] else matchR a vars j
def restrictTo (l : List Asg) (vars : List Int) : Nat → List Asg
  | 0 => []
  | k + 1 => restrictTo l vars k ++ matchR (nth l k) vars vars.length
def matchK (v i : Int) (l : List Asg) : Nat → List Asg
  | 0 => []
  | j + 1 => if (nth l j).1 = v then matchK v i l j ++ [(i, (nth l j).2)] else matchK v i l j
def keptTo (l : List Asg) (vars : List Int) : Nat → List Asg
  | 0 => []
  | k + 1 => keptTo l vars k ++ matchK (nth vars k) k l l.length
end Go.Eng
end

section
/- Walks, written by gen.py out of hints. -/



set_option linter.unusedVariables false
set_option linter.unusedSimpArgs false
namespace Go.Proofs.Ytlidcpmdgceboaa
open Go.Eng
set_option maxRecDepth 10000
set_option maxHeartbeats 1000000



end Go.Proofs.Ytlidcpmdgceboaa
end

section
/- Projections: the projected task, what it keeps, and its costs. -/

set_option linter.unusedVariables false
set_option linter.unusedSimpArgs false
set_option linter.unusedSectionVars false
namespace Go.Eng
open Go

/-! ### Sorted assignments -/
abbrev SortedA (l : List Asg) : Prop := l.Pairwise fun a b => a.1 < b.1
theorem ext_get {α : Type} [Inhabited α] {l l' : List α} (hl : l.length = l'.length) (h : ∀ i : Nat, i < l.length → nth l i = nth l' i) : l = l' := by
  refine List.ext_getElem hl fun i h1 h2 => ?_
  have := h i h1
  rwa [nth_eq h1, nth_eq h2] at this
/-! ### What a pattern leaves of assignments -/
/-- What a pattern leaves of a list of assignments. -/
def restr (l : List Asg) (vars : List Int) : List Asg := restrictTo l vars l.length
/-- The projected task. -/
def projM (m : Multi) (vars : List Int) : Multi := ⟨sel m.sizes vars, sel m.init vars, restr m.goal vars, m.ops.map fun o => ⟨restr o.pre vars, restr o.post vars, o.cost⟩⟩
section
variable {sizes vars : List Int} (hp : PatP sizes vars)
include hp
end
/-! ### Costs are consistent -/
section
variable {m : Multi} (hv : Valid m)
include hv
omit hv in
theorem stepC_flag {c : List Int × Bool} {n j : Nat} (h : (stepC m c n j).2 = false) (hh : c.2 = false) : stepC m c n j = c := by
  unfold stepC at h ⊢
  split at h
  · rename_i hp
    rw [if_pos hp]
    split at h
    · cases h
    · rename_i hk; rw [if_neg hk]
  · rename_i hp; rw [if_neg hp]
omit hv in
theorem stepC_true {c : List Int × Bool} {n j : Nat} (hh : c.2 = true) : (stepC m c n j).2 = true := by
  unfold stepC
  split
  · split
    · rfl
    · exact hh
  · exact hh
omit hv in
theorem opsTo_true {c : List Int × Bool} {n : Nat} (hh : c.2 = true) : ∀ k : Nat, (opsTo m c n k).2 = true
  | 0 => hh
  | k + 1 => stepC_true (opsTo_true hh k)
omit hv in
theorem opsTo_flag {c : List Int × Bool} {n : Nat} : ∀ {k : Nat}, (opsTo m c n k).2 = false → c.2 = false ∧ opsTo m c n k = c ∧ ∀ j : Nat, j < k → stepC m c n j = c
  | 0, h => ⟨h, rfl, fun j hj => by omega⟩
  | k + 1, h => by
    have h1 : (opsTo m c n k).2 = false := by
      cases hf : (opsTo m c n k).2 with
      | false => rfl
      | true => have := stepC_true (m := m) (n := n) (j := k) hf; have h' : (stepC m (opsTo m c n k) n k).2 = false := h; rw [this] at h'; cases h'
    obtain ⟨a, b, d⟩ := opsTo_flag h1
    have h2 : stepC m (opsTo m c n k) n k = opsTo m c n k := stepC_flag h h1
    refine ⟨a, by show stepC m (opsTo m c n k) n k = c; rw [h2, b], fun j hj => ?_⟩
    by_cases hjk : j = k
    · subst hjk; rw [b] at h2; exact h2
    · exact d j (by omega)
omit hv in
theorem sweepTo_flag {c : List Int} : ∀ {k : Nat}, (sweepTo m c k).2 = false → sweepTo m c k = (c, false) ∧ ∀ n : Nat, n < k → ∀ j : Nat, j < m.ops.length → stepC m (c, false) n j = (c, false)
  | 0, h => ⟨rfl, fun n hn => by omega⟩
  | k + 1, h => by
    obtain ⟨a, b, d⟩ := opsTo_flag (c := sweepTo m c k) h
    obtain ⟨e, f⟩ := sweepTo_flag a
    refine ⟨by show opsTo m (sweepTo m c k) k m.ops.length = _; rw [b, e], fun n hn j hj => ?_⟩
    by_cases hnk : n = k
    · subst hnk; have := d j hj; rwa [e] at this
    · exact f n (by omega) j hj
end
/-- The pattern of all variables. -/
def allV (n : Nat) : List Int := (List.range n).map fun (i : Nat) => (i : Int)
/-- A pattern inside another one: where its variables stand. -/
def posIn (W vars : List Int) : List Int := vars.map fun v => ((W.idxOf v : Nat) : Int)
section
variable {sizes W vars : List Int} (hW : PatP sizes W) (hp : PatP sizes vars) (hin : ∀ i : Nat, i < vars.length → nth vars i ∈ W)
include hin
include hW hp
end
end Go.Eng
end

section
/- Projections: what the package's functions answer; all states in order. Projections: the laws in plain words. -/

set_option linter.unusedVariables false
set_option linter.unusedSimpArgs false
set_option linter.unusedSectionVars false
namespace Go.Eng
open Go

/-! ### All states, in order -/
def expR (s : List Int) (c : Nat) : List (List Int) := (List.range c).map fun (v : Nat) => s ++ [(v : Int)]
def expTo (l : List (List Int)) (c : Nat) : Nat → List (List Int)
  | 0 => []
  | i + 1 => expTo l c i ++ expR (nth l i) c
def statesTo (sizes : List Int) : Nat → List (List Int)
  | 0 => [[]]
  | k + 1 => expTo (statesTo sizes k) (nth sizes k).toNat (statesTo sizes k).length
/-- The first places of a state. -/
abbrev PreP (sizes s : List Int) (k : Nat) : Prop := s.length = k ∧ ∀ v : Nat, v < k → 0 ≤ nth s v ∧ nth s v < nth sizes v
def statesL (sizes : List Int) : List (List Int) := statesTo sizes sizes.length
/-! ### The first estimates -/
def fillTo (m : Multi) (k : Nat) : List Int := (List.range (nR m)).map fun n => if n < k then (if holds (stAt m n) m.goal = true then 0 else 1000000000) else 0
/-! ### The answers -/
def bigF (m : Multi) (vars : List Int) (f : Int × Int) : Int × Int := if f = (0, 0) ∧ 2000 < prodTo m.sizes vars vars.length then (10, -7) else f
def distF (m : Multi) (vars : List Int) : Int × Int := bigF m vars (projFault m vars)
def stpF (m : Multi) (vars s : List Int) : Int × Int := if stateFault m s = (0, 0) then patFault m.sizes vars (-8) else stateFault m s
def valF (m : Multi) (vars s : List Int) : Int × Int := bigF m vars (stpF m vars s)
noncomputable def distR (m : Multi) (vars : List Int) : List Int := if distF m vars = (0, 0) then costs (projM m vars) else []
def projR (m : Multi) (vars : List Int) : Multi := if projFault m vars = (0, 0) then projM m vars else ⟨[], [], [], []⟩
noncomputable def pval (m : Multi) (vars s : List Int) : Int := nth (costs (projM m vars)) (rank (projM m vars).sizes (sel s vars))
noncomputable def valR (m : Multi) (vars s : List Int) : Int := if valF m vars s = (0, 0) then pval m vars s else 0
def opTo (m : Multi) (vars : List Int) (k : Nat) : List MOp := (List.range k).map fun (i : Nat) => ⟨restr (nth m.ops i).pre vars, restr (nth m.ops i).post vars, (nth m.ops i).cost⟩
/-! ### Sets, and a number put into one -/
abbrev SetOk (n : Int) (l : List Int) (i : Nat) : Prop := 0 ≤ nth l i ∧ nth l i < n ∧ (0 < i → nth l (i - 1 : Int) < nth l i)
abbrev SetP (n : Int) (l : List Int) : Prop := ∀ i : Nat, i < l.length → SetOk n l i
def addP (f : Int × Int) (sizes vars : List Int) (i : Int) : Int × Int := if f.1 = 0 ∧ patCode sizes vars ≠ 0 then (patCode sizes vars, i) else f
def cutN (l : List Int) (n : Int) : Nat := (firstBad l.length (fun i => decide (nth l i < n))).getD l.length
theorem cutN_eq {l : List Int} {n : Int} {k : Nat} (hk : k ≤ l.length) (hi : ∀ j : Nat, j < k → nth l j < n) (hs : k < l.length → ¬ nth l k < n) : cutN l n = k := by
  unfold cutN
  by_cases h : k < l.length
  · rw [firstBad_some h (fun j hj => by simpa using hi j hj) (by simpa using hs h)]; rfl
  · have : k = l.length := by omega
    rw [firstBad_none (fun j hj => by simpa using hi j (by omega))]
    simp [this]
def withL (l : List Int) (n : Int) : List Int := l.take (cutN l n) ++ [n] ++ l.drop (if cutN l n < l.length ∧ nth l (cutN l n) = n then cutN l n + 1 else cutN l n)
theorem withL_t {l : List Int} {n : Int} {k : Nat} (h : cutN l n = k) (hk : k < l.length) (he : nth l k = n) : withL l n = l.take k ++ [n] ++ l.drop (k + 1) := by
  unfold withL; rw [h, if_pos ⟨hk, he⟩]
theorem withL_f {l : List Int} {n : Int} {k : Nat} (h : cutN l n = k) (he : ¬ (k < l.length ∧ nth l k = n)) : withL l n = l.take k ++ [n] ++ l.drop k := by
  unfold withL; rw [h, if_neg he]
theorem take_s {l : List Int} {k : Nat} (hk : k < l.length) : l.take (k + 1) = l.take k ++ [nth l k] := by
  rw [nth_eq hk, List.take_append_getElem]
theorem withL_mem {l : List Int} {n : Int} {i : Nat} (hi : i < l.length) : nth l i ∈ withL l n := by
  have hx : nth l i ∈ l := nth_mem (by omega) (by omega)
  generalize nth l i = x at hx ⊢
  unfold withL
  simp only [List.mem_append, List.mem_singleton]
  split
  · rename_i h
    have h1 : l = l.take (cutN l n) ++ (nth l (cutN l n) :: l.drop (cutN l n + 1)) := by
      rw [nth_eq h.1, ← List.drop_eq_getElem_cons h.1, List.take_append_drop]
    have hx' : x ∈ l.take (cutN l n) ++ (nth l (cutN l n) :: l.drop (cutN l n + 1)) := by rw [← h1]; exact hx
    simp only [List.mem_append, List.mem_cons] at hx'
    rcases hx' with hx' | hx' | hx'
    · exact .inl (.inl hx')
    · rw [h.2] at hx'; exact .inl (.inr hx')
    · exact .inr hx'
  · have hx' : x ∈ l.take (cutN l n) ++ l.drop (cutN l n) := by rw [List.take_append_drop]; exact hx
    simp only [List.mem_append] at hx'
    rcases hx' with hx' | hx'
    · exact .inl (.inl hx')
    · exact .inr hx'
end Go.Eng

set_option linter.unusedVariables false
set_option linter.unusedSimpArgs false
set_option linter.unusedSectionVars false
namespace Go.Eng
open Go
end Go.Eng
end

section
/- Walks, written by gen.py out of hints. -/





set_option linter.unusedVariables false
set_option linter.unusedSimpArgs false
namespace Go.Proofs.Ytlidcpmdgceboaa
open Go.Eng
set_option maxRecDepth 10000
set_option maxHeartbeats 1000000

theorem R_IsSet_does (l : List Int) (n : Int) (hn : -9223372036854775807 ≤ n ∧ n ≤ 9223372036854775807) : Does Try.prog false 38 [.d (ints l), I (n)] (Bo (decide (SetP n l))) := by
 refine Does.of_body Try.func38 rfl rfl (by simp) Try.call38 (fun w0 O0 => ?_); refine .lenLe (n := 0) rfl (fun len0 => ?_); refine .seq ?_; refine .region ?_; refine .a ?_; refine .sq ?_; refine .seq ?_; refine .seq ?_; refine .region ?_; refine .a ?_; refine .sq ?_; refine .block ?_; refine .loop (X := Nat) (fun k => k ≤ l.length ∧ ∀ i : Nat, i < k → SetOk n l i) (fun k => [(0, .d (ints l)), (1, I (n)), (5, I (k))]) (fun k => []) (fun k => l.length - k) 0 ⟨by omega, by simp⟩ ?_ ?_
 ·exact .slot rfl (.refl _) <| .slot rfl (.refl _) <| .slot rfl (Le.of_eq (by simp)) <| .nil
 ·rintro k ⟨hkl, hinv⟩
  refine .seq ?_; refine .seq ?_; refine .region ?_; refine .m ?_; refine .m ?_; refine .x (OpSem.lenL rfl rfl es22) ?_; refine .x (.b blss) ?_; refine .sq ?_; refine .cond rfl (fun c9 => ?_) (fun c9 => ?_)
  ·have hk : k < l.length := by simpa using c9
   refine .skip ?_; refine .seq ?_; refine .seq ?_; refine .block ?_; refine .seq ?_; refine PC.start [] ?_; refine .m ?_; refine .m ?_; refine .x (OpSem.idxL rfl rfl rfl es22 (by omega) (by omega)) ?_; refine .x (OpSem.load1 rfl rfl vs3 rfl) ?_; refine .m ?_; refine .x .su ?_; refine .x (OpSem.call0 (R_In_does ..) rfl rfl rfl rfl (Les.refl _)) ?_; refine .x (OpSem.not rfl rfl) ?_; refine .m ?_; refine .split (n := 20) rfl (fun c20 => ?_) (fun c20 => ?_)
   ·refine .hf c20 ?_; refine .hf c20 ?_; refine .hf c20 ?_; refine .gU rfl rfl rfl rfl rfl ?_; refine .gU rfl rfl rfl rfl rfl ?_; refine .gU rfl rfl rfl rfl rfl ?_; refine .gU rfl rfl rfl rfl rfl ?_; refine .gU rfl rfl rfl rfl rfl ?_; refine .gU rfl rfl rfl rfl rfl ?_; refine .gU rfl rfl rfl rfl rfl ?_; refine .gU rfl rfl rfl rfl rfl ?_; refine .gU rfl rfl rfl rfl rfl ?_; refine .d0 mixed ?_; refine .gu ?_; refine .hf c20 ?_; refine .x (OpSem.pickT rfl rfl c20 rfl) ?_; refine .sq ?_; refine .condT rfl rfl ?_; refine .seq ?_; refine .region ?_; refine .a ?_; refine .sq ?_; refine .ret ?_; refine .block_ret ?_; refine .pass_ret ?_; refine .pass_ret ?_; refine .block_ret ?_; refine .pass_ret ?_; exact .ret rfl (.tmp rfl <| .nil) rfl (Le.bo (decide_eq_false (fun h => by have := h k hk; simp at c20; omega)).symm)
   ·refine .ht (OpSem.move (.inl rfl) rfl) c20 ?_; refine .ht (.b bgtr) c20 ?_; refine .ht (OpSem.move (.inl rfl) rfl) c20 ?_; refine .split (n := 23) rfl (fun c23 => ?_) (fun c23 => ?_)
    ·have hkp : 0 < k := by simp at c23; omega
     refine .gt (OpSem.move (.inl rfl) rfl) c23 ?_; refine .gt (OpSem.move (.inl rfl) rfl) c23 ?_; refine .gt (OpSem.idxL rfl rfl rfl es22 (by omega) (by omega)) c23 ?_; refine .gt (OpSem.load1 rfl rfl vs3 rfl) c23 ?_; refine .gt (OpSem.move (.inl rfl) rfl) c23 ?_; refine .gt (OpSem.move (.inl rfl) rfl) c23 ?_; refine .gt .su c23 ?_; refine .gt (OpSem.idxL rfl rfl rfl es22 (by omega) (by omega)) c23 ?_; refine .gt (OpSem.load1 rfl rfl vs3 rfl) c23 ?_; refine .d0 mixed ?_; refine .gt c23 ?_; refine .x (.b bleq) ?_; refine .ht c20 ?_; refine .x (OpSem.pickT rfl rfl c23 rfl) ?_; refine .x (OpSem.pickF rfl rfl c20 rfl) ?_; refine .sq ?_; refine .cond rfl (fun c35 => ?_) (fun c35 => ?_)
     ·refine .seq ?_; refine .region ?_; refine .a ?_; refine .sq ?_; refine .ret ?_; refine .block_ret ?_; refine .pass_ret ?_; refine .pass_ret ?_; refine .block_ret ?_; refine .pass_ret ?_; exact .ret rfl (.tmp rfl <| .nil) rfl (Le.bo (decide_eq_false (fun h => by have h1 := (h k hk).2.2 hkp; simp at c35; omega)).symm)
     ·refine .skip ?_; refine .block_normal ?_; refine .y ?_; refine .m ?_; refine .x .ad ?_; refine .a ?_; refine .nil ?_
      have hb : SetOk n l k := by first | (simp at c20 c35; exact ⟨by omega, by omega, fun h => by omega⟩) | (simp at c20 c23; exact ⟨by omega, by omega, fun h => by omega⟩)
      refine .again (k + 1) ⟨by omega, all_succ hinv hb⟩ ?_ (by omega); exact .slot rfl (.refl _) <| .slot rfl (.refl _) <| .slot rfl (Le.of_eq (by simp)) <| .nil
    ·refine .gf c23 ?_; refine .gf c23 ?_; refine .gf c23 ?_; refine .gf c23 ?_; refine .gf c23 ?_; refine .gf c23 ?_; refine .gf c23 ?_; refine .gf c23 ?_; refine .gf c23 ?_; refine .d0 mixed ?_; refine .gf c23 ?_; refine .ht c20 ?_; refine .x (OpSem.pickF rfl rfl c23 rfl) ?_; refine .x (OpSem.pickF rfl rfl c20 rfl) ?_; refine .sq ?_; refine .condF rfl rfl ?_; refine .skip ?_; refine .block_normal ?_; refine .y ?_; refine .m ?_; refine .x .ad ?_; refine .a ?_; refine .nil ?_
     have hb : SetOk n l k := by first | (simp at c20 c35; exact ⟨by omega, by omega, fun h => by omega⟩) | (simp at c20 c23; exact ⟨by omega, by omega, fun h => by omega⟩)
     refine .again (k + 1) ⟨by omega, all_succ hinv hb⟩ ?_ (by omega); exact .slot rfl (.refl _) <| .slot rfl (.refl _) <| .slot rfl (Le.of_eq (by simp)) <| .nil
  ·have hk : k = l.length := by simp at c9; omega
   refine .exit ?_; refine .pass_exit ?_; refine .pass_exit ?_; refine .block_same ?_; refine .z ?_; refine .a ?_; refine .sq ?_; refine .ret ?_; exact .ret rfl (.tmp rfl <| .nil) rfl (Le.bo (decide_eq_true (by subst hk; exact hinv)).symm)

theorem R_With_does (l : List Int) (n : Int) (hl : l.length ≤ 1000) : DoesO Try.prog 92 [.d (ints l), I (n)] 1 3 (((withL l n).map fun n => [D.v (.int .i64 n)])) := by
 refine DoesO.of_body Try.func92 rfl rfl (by simp) Try.call92 (fun w0 O0 => ?_); refine .lenLe (n := 0) rfl (fun len0 => ?_); refine .seq ?_; refine .region ?_; refine .a ?_; refine .z ?_; refine .a ?_; refine .sq ?_; refine .seq ?_; refine .seq ?_; refine .ownNil (n := 5) 5 1 3 rfl ?_; refine .region ?_; refine .a ?_; refine .sq ?_; refine .block ?_; refine .loop (X := Nat) (fun k => k ≤ l.length ∧ ∀ j : Nat, j < k → nth l j < n) (fun k => [(0, .d (ints l)), (1, I (n)), (5, .o 5), (6, I (k))]) (fun k => [(5, .own 1 3 ((l.take k).map fun n => [D.v (.int .i64 n)]))]) (fun k => l.length - k) 0 ⟨by omega, by simp⟩ ?_ ?_
 ·exact .slot rfl (.refl _) <| .slot rfl (.refl _) <| .slot rfl (.refl _) <| .slot rfl (Le.of_eq (by simp)) <| .memEq rfl (by simp) <| .nil
 ·rintro k ⟨hkl, hinv⟩
  refine .seq ?_; refine .seq ?_; refine .region ?_; refine .m ?_; refine .m ?_; refine .x (OpSem.lenL rfl rfl es22) ?_; refine .x (.b blss) ?_; refine .m ?_; refine .split (n := 12) rfl (fun c12 => ?_) (fun c12 => ?_)
  ·have hk : k < l.length := by simpa using c12
   refine .gt c12 ?_; refine .m ?_; refine .gt c12 ?_; refine .m ?_; refine .gt c12 ?_; refine .x (OpSem.idxL rfl rfl rfl es22 (by omega) (by omega)) ?_; refine .gt c12 ?_; refine .x (OpSem.load1 rfl rfl vs3 rfl) ?_; refine .gt c12 ?_; refine .m ?_; refine .gt c12 ?_; refine .x (.b blss) ?_; refine .x (OpSem.pickT rfl rfl c12 rfl) ?_; refine .sq ?_; refine .cond rfl (fun c19 => ?_) (fun c19 => ?_)
   ·have hb : nth l k < n := by simpa using c19
    refine .skip ?_; refine .seq ?_; refine .seq ?_; refine .block ?_; refine .region ?_; refine .m ?_; refine .m ?_; refine .m ?_; refine .x (OpSem.idxL rfl rfl rfl es22 (by omega) (by omega)) ?_; refine .x (OpSem.load1 rfl rfl vs3 rfl) ?_; refine .x (.bs es22 ze22) ?_; refine .ap es22 el22 zc3 by3 ?_; refine .a ?_; refine .nil ?_; refine .block_normal ?_; refine .y ?_; refine .m ?_; refine .x .ad ?_; refine .a ?_; refine .nil ?_; refine .again (k + 1) ⟨by omega, all_succ hinv hb⟩ ?_ (by omega); exact .slot rfl (.refl _) <| .slot rfl (.refl _) <| .slot rfl (.refl _) <| .slot rfl (Le.of_eq (by simp)) <| .memEq rfl (by rw [take_s hk]; simp) <| .nil
   ·have hc : cutN l n = k := cutN_eq (by omega) hinv (fun _ => by simpa using c19)
    refine .exit ?_; refine .pass_exit ?_; refine .pass_exit ?_; refine .block_same ?_; refine .z ?_; refine .m ?_; refine .x (OpSem.le (s' := I k) (OpSem.leno rfl rfl rfl es22) (Le.i (by simp; omega))) ?_; refine .a ?_; refine .z ?_; refine .m ?_; refine .m ?_; refine .x (.bs es22 ze22) ?_; refine .ap es22 el22 zc3 by3 ?_; refine .a ?_; refine .sq ?_; refine .seq ?_; refine .seq ?_; refine .region ?_; refine .m ?_; refine .m ?_; refine .x (OpSem.lenL rfl rfl es22) ?_; refine .x (.b blss) ?_; refine .m ?_; refine .split (n := 39) rfl (fun c39 => ?_) (fun c39 => ?_)
    ·have hk2 : k < l.length := by simpa using c39
     refine .gt c39 ?_; refine .m ?_; refine .gt c39 ?_; refine .m ?_; refine .gt c39 ?_; refine .x (OpSem.idxL rfl rfl rfl es22 (by omega) (by omega)) ?_; refine .gt c39 ?_; refine .x (OpSem.load1 rfl rfl vs3 rfl) ?_; refine .gt c39 ?_; refine .m ?_; refine .gt c39 ?_; refine .x (.b beql) ?_; refine .x (OpSem.pickT rfl rfl c39 rfl) ?_; refine .sq ?_; refine .cond rfl (fun c46 => ?_) (fun c46 => ?_)
     ·refine .region ?_; refine .m ?_; refine .x .ad ?_; refine .a ?_; refine .z ?_; refine .m ?_; refine .m ?_; refine .m ?_; refine .x (OpSem.sliceL rfl rfl rfl es22 (by omega) (by omega)) ?_; refine .append rfl rfl rfl (by decide) rfl rfl rfl es22 el22 zc3 rfl by3 (one_map (fun _ => rfl)) (by simp [maxLen]; omega) (by simp; omega) ?_; refine .a ?_; refine .sq ?_; refine .ret ?_; exact .retO2 rfl rfl rfl (by simp) (by first | (rw [withL_t hc hk2 (by simpa using c46)]; simp; done) | (rw [withL_f hc (fun h => by simp at c46; exact c46 h.2)]; simp; done) | (rw [withL_f hc (fun h => by simp at c39; omega)]; simp; done))
     ·refine .skip ?_; refine .z ?_; refine .m ?_; refine .m ?_; refine .m ?_; refine .x (OpSem.sliceL rfl rfl rfl es22 (by omega) (by omega)) ?_; refine .append rfl rfl rfl (by decide) rfl rfl rfl es22 el22 zc3 rfl by3 (one_map (fun _ => rfl)) (by simp [maxLen]; omega) (by simp; omega) ?_; refine .a ?_; refine .sq ?_; refine .ret ?_; exact .retO2 rfl rfl rfl (by simp) (by first | (rw [withL_t hc hk2 (by simpa using c46)]; simp; done) | (rw [withL_f hc (fun h => by simp at c46; exact c46 h.2)]; simp; done) | (rw [withL_f hc (fun h => by simp at c39; omega)]; simp; done))
    ·refine .gf c39 ?_; refine .gf c39 ?_; refine .gf c39 ?_; refine .gf c39 ?_; refine .gf c39 ?_; refine .gf c39 ?_; refine .x (OpSem.pickF rfl rfl c39 rfl) ?_; refine .sq ?_; refine .condF rfl rfl ?_; refine .skip ?_; refine .z ?_; refine .m ?_; refine .m ?_; refine .m ?_; refine .x (OpSem.sliceL rfl rfl rfl es22 (by omega) (by omega)) ?_; refine .append rfl rfl rfl (by decide) rfl rfl rfl es22 el22 zc3 rfl by3 (one_map (fun _ => rfl)) (by simp [maxLen]; omega) (by simp; omega) ?_; refine .a ?_; refine .sq ?_; refine .ret ?_; exact .retO2 rfl rfl rfl (by simp) (by first | (rw [withL_t hc hk2 (by simpa using c46)]; simp; done) | (rw [withL_f hc (fun h => by simp at c46; exact c46 h.2)]; simp; done) | (rw [withL_f hc (fun h => by simp at c39; omega)]; simp; done))
  ·have hk : k = l.length := by simp at c12; omega
   have hc : cutN l n = k := cutN_eq (by omega) hinv (fun h => by omega)
   refine .gf c12 ?_; refine .gf c12 ?_; refine .gf c12 ?_; refine .gf c12 ?_; refine .gf c12 ?_; refine .gf c12 ?_; refine .x (OpSem.pickF rfl rfl c12 rfl) ?_; refine .sq ?_; refine .condF rfl rfl ?_; refine .exit ?_; refine .pass_exit ?_; refine .pass_exit ?_; refine .block_same ?_; refine .z ?_; refine .m ?_; refine .x (OpSem.le (s' := I k) (OpSem.leno rfl rfl rfl es22) (Le.i (by simp; omega))) ?_; refine .a ?_; refine .z ?_; refine .m ?_; refine .m ?_; refine .x (.bs es22 ze22) ?_; refine .ap es22 el22 zc3 by3 ?_; refine .a ?_; refine .sq ?_; refine .seq ?_; refine .seq ?_; refine .region ?_; refine .m ?_; refine .m ?_; refine .x (OpSem.lenL rfl rfl es22) ?_; refine .x (.b blss) ?_; refine .m ?_; refine .split (n := 39) rfl (fun c39 => ?_) (fun c39 => ?_)
   ·have hk2 : k < l.length := by simpa using c39
    refine .gt c39 ?_; refine .m ?_; refine .gt c39 ?_; refine .m ?_; refine .gt c39 ?_; refine .x (OpSem.idxL rfl rfl rfl es22 (by omega) (by omega)) ?_; refine .gt c39 ?_; refine .x (OpSem.load1 rfl rfl vs3 rfl) ?_; refine .gt c39 ?_; refine .m ?_; refine .gt c39 ?_; refine .x (.b beql) ?_; refine .x (OpSem.pickT rfl rfl c39 rfl) ?_; refine .sq ?_; refine .cond rfl (fun c46 => ?_) (fun c46 => ?_)
    ·refine .region ?_; refine .m ?_; refine .x .ad ?_; refine .a ?_; refine .z ?_; refine .m ?_; refine .m ?_; refine .m ?_; refine .x (OpSem.sliceL rfl rfl rfl es22 (by omega) (by omega)) ?_; refine .append rfl rfl rfl (by decide) rfl rfl rfl es22 el22 zc3 rfl by3 (one_map (fun _ => rfl)) (by simp [maxLen]; omega) (by simp; omega) ?_; refine .a ?_; refine .sq ?_; refine .ret ?_; exact .retO2 rfl rfl rfl (by simp) (by first | (rw [withL_t hc hk2 (by simpa using c46)]; simp; done) | (rw [withL_f hc (fun h => by simp at c46; exact c46 h.2)]; simp; done) | (rw [withL_f hc (fun h => by simp at c39; omega)]; simp; done))
    ·refine .skip ?_; refine .z ?_; refine .m ?_; refine .m ?_; refine .m ?_; refine .x (OpSem.sliceL rfl rfl rfl es22 (by omega) (by omega)) ?_; refine .append rfl rfl rfl (by decide) rfl rfl rfl es22 el22 zc3 rfl by3 (one_map (fun _ => rfl)) (by simp [maxLen]; omega) (by simp; omega) ?_; refine .a ?_; refine .sq ?_; refine .ret ?_; exact .retO2 rfl rfl rfl (by simp) (by first | (rw [withL_t hc hk2 (by simpa using c46)]; simp; done) | (rw [withL_f hc (fun h => by simp at c46; exact c46 h.2)]; simp; done) | (rw [withL_f hc (fun h => by simp at c39; omega)]; simp; done))
   ·refine .gf c39 ?_; refine .gf c39 ?_; refine .gf c39 ?_; refine .gf c39 ?_; refine .gf c39 ?_; refine .gf c39 ?_; refine .x (OpSem.pickF rfl rfl c39 rfl) ?_; refine .sq ?_; refine .condF rfl rfl ?_; refine .skip ?_; refine .z ?_; refine .m ?_; refine .m ?_; refine .m ?_; refine .x (OpSem.sliceL rfl rfl rfl es22 (by omega) (by omega)) ?_; refine .append rfl rfl rfl (by decide) rfl rfl rfl es22 el22 zc3 rfl by3 (one_map (fun _ => rfl)) (by simp [maxLen]; omega) (by simp; omega) ?_; refine .a ?_; refine .sq ?_; refine .ret ?_; exact .retO2 rfl rfl rfl (by simp) (by first | (rw [withL_t hc hk2 (by simpa using c46)]; simp; done) | (rw [withL_f hc (fun h => by simp at c46; exact c46 h.2)]; simp; done) | (rw [withL_f hc (fun h => by simp at c39; omega)]; simp; done))

end Go.Proofs.Ytlidcpmdgceboaa
end

section
/- Graphs with labelled arcs: data, faults, distances. -/

set_option linter.unusedVariables false
set_option linter.unusedSimpArgs false
set_option linter.unusedSectionVars false
namespace Go.Eng
open Go

structure Arc where
  fr : Int
  lab : Int
  to : Int
deriving DecidableEq
instance : Inhabited Arc := ⟨⟨0, 0, 0⟩⟩
structure Abs where
  states : Int
  labels : Int
  arcs : List Arc
  init : Int
  goals : List Int
deriving DecidableEq
instance : Inhabited Abs := ⟨⟨0, 0, [], 0, []⟩⟩
abbrev arcC (x : Arc) : List D := [.v (.int .i64 x.fr), .v (.int .i64 x.lab), .v (.int .i64 x.to)]
abbrev arcsD (l : List Arc) : D := .s 3 (l.map arcC)
abbrev arcS (x : Arc) : S := .g [I x.fr, I x.lab, I x.to]
abbrev absC (a : Abs) : List D := [.v (.int .i64 a.states), .v (.int .i64 a.labels), arcsD a.arcs, .v (.int .i64 a.init), ints a.goals]
abbrev absS (a : Abs) : S := .g [I a.states, I a.labels, .d (arcsD a.arcs), I a.init, .d (ints a.goals)]
abbrev abssD (l : List Abs) : D := .s 5 (l.map absC)

/-! ### The order of arcs -/
abbrev arcLt (x y : Arc) : Prop := x.fr < y.fr ∨ (x.fr = y.fr ∧ (x.lab < y.lab ∨ (x.lab = y.lab ∧ x.to < y.to)))
def cmpI (x y : Int) : Int := if x < y then -1 else if y < x then 1 else 0
/-- The first number that is not 0. -/
def orI (l : List Int) : Int := (l.find? fun x => decide (x ≠ 0)).getD 0
def cmpArc (x y : Arc) : Int := orI [cmpI x.fr y.fr, cmpI x.lab y.lab, cmpI x.to y.to]
/-! ### Faults -/
abbrev arcIn (a : Abs) (x : Arc) : Prop := (0 ≤ x.fr ∧ x.fr < a.states) ∧ (0 ≤ x.lab ∧ x.lab < a.labels) ∧ (0 ≤ x.to ∧ x.to < a.states)
abbrev headOk (a : Abs) : Prop := (1 ≤ a.states ∧ a.states ≤ 60) ∧ (0 ≤ a.labels ∧ a.labels ≤ 40) ∧ (0 ≤ a.init ∧ a.init < a.states)
def arcFault (a : Abs) (i : Nat) : Int × Int := if ¬ arcIn a (nth a.arcs i) then (3, i) else if 0 < i ∧ ¬ arcLt (nth a.arcs (i - 1 : Int)) (nth a.arcs i) then (5, i) else (0, 0)
def arcsFault (a : Abs) : Int × Int :=
  match firstBad a.arcs.length (fun i => decide (arcFault a i = (0, 0))) with
  | some i => arcFault a i
  | none => (0, 0)
def absFault (a : Abs) : Int × Int :=
  if ¬ headOk a then (3, -1) else if ¬ SetP a.states a.goals then (5, -2) else if 400 < a.arcs.length then (2, -3) else arcsFault a
section
variable {a : Abs}
/-- What a valid abstraction gives. -/
structure AbsOk (a : Abs) : Prop where
  head : headOk a
  goals : SetP a.states a.goals
  len : a.arcs.length ≤ 400
  arc : ∀ i : Nat, i < a.arcs.length → arcIn a (nth a.arcs i)
  ord : ∀ i : Nat, 0 < i → i < a.arcs.length → arcLt (nth a.arcs (i - 1 : Int)) (nth a.arcs i)
end
/-! ### Costs of labels -/
abbrev CostP (c : List Int) : Prop := ∀ i : Nat, i < c.length → 0 ≤ nth c i ∧ nth c i ≤ 1000000
def costCode (c : List Int) (n : Int) : Int := if (c.length : Int) ≠ n then 9 else if ¬ CostP c then 3 else 0
def costFault (c : List Int) (n i : Int) : Int × Int := if costCode c n = 0 then (0, 0) else (costCode c n, i)
/-! ### Relaxation of arcs with weights -/
structure Edge where
  fr : Int
  to : Int
  w : Int
instance : Inhabited Edge := ⟨⟨0, 0, 0⟩⟩
def stepE (d : List Int × Bool) (e : Edge) : List Int × Bool :=
  if nth d.1 e.to < 1000000000 ∧ nth d.1 e.to + e.w < nth d.1 e.fr then (setI d.1 e.fr (nth d.1 e.to + e.w), true) else d
def roundTo (E : List Edge) (d : List Int) : Nat → List Int × Bool
  | 0 => (d, false)
  | k + 1 => stepE (roundTo E d k) (nth E k)
def roundE (E : List Edge) (d : List Int) : List Int × Bool := roundTo E d E.length
def itE (E : List Edge) (d : List Int) : Nat → List Int
  | 0 => d
  | j + 1 => (roundE E (itE E d j)).1
open Classical in
noncomputable def fixE (E : List Edge) (d : List Int) : List Int := if h : ∃ j, (roundE E (itE E d j)).2 = false then itE E d (Classical.choose h) else d
abbrev EdgeOk (n : Nat) (E : List Edge) : Prop := ∀ i : Nat, i < E.length → (0 ≤ (nth E i).fr ∧ (nth E i).fr < n) ∧ (0 ≤ (nth E i).to ∧ (nth E i).to < n) ∧ 0 ≤ (nth E i).w
def GoodD (n : Nat) (d : List Int) : Prop := d.length = n ∧ ∀ x : Int, 0 ≤ x → x < n → 0 ≤ nth d x ∧ nth d x ≤ 1000000000
section
variable {n : Nat} {E : List Edge} (hE : EdgeOk n E)
include hE
omit hE in
theorem sum_goodD {d : List Int} (hg : GoodD n d) : 0 ≤ d.sum := sum_nn fun x hx => by
  obtain ⟨i, hi, rfl⟩ := List.getElem_of_mem hx
  have := (hg.2 i (by omega) (by rw [← hg.1]; omega)).1
  rwa [nth_eq hi] at this
omit hE in
theorem itE_stay {d : List Int} {j : Nat} (he : itE E d (j + 1) = itE E d j) : ∀ i, itE E d (j + i) = itE E d j
  | 0 => rfl
  | i + 1 => by
    have ih := itE_stay he i
    show (roundE E (itE E d (j + i))).1 = _
    rw [ih]; exact he
omit hE in
theorem stepE_true {d : List Int × Bool} {e : Edge} (h : d.2 = true) : (stepE d e).2 = true := by
  unfold stepE; split
  · rfl
  · exact h
omit hE in
theorem roundTo_flag {d : List Int} : ∀ {k : Nat}, (roundTo E d k).2 = false → roundTo E d k = (d, false) ∧ ∀ i : Nat, i < k → ¬ (nth d (nth E i).to < 1000000000 ∧ nth d (nth E i).to + (nth E i).w < nth d (nth E i).fr)
  | 0, h => ⟨rfl, fun i hi => by omega⟩
  | k + 1, h => by
    have h1 : (roundTo E d k).2 = false := by
      cases hf : (roundTo E d k).2 with
      | false => rfl
      | true => have := stepE_true (e := nth E k) hf; have h' : (stepE (roundTo E d k) (nth E k)).2 = false := h; rw [this] at h'; cases h'
    obtain ⟨a, b⟩ := roundTo_flag h1
    have h2 : (stepE (roundTo E d k) (nth E k)).2 = false := h
    have h3 : ¬ (nth d (nth E k).to < 1000000000 ∧ nth d (nth E k).to + (nth E k).w < nth d (nth E k).fr) := fun hc => by
      rw [a] at h2
      unfold stepE at h2
      rw [if_pos hc] at h2
      cases h2
    refine ⟨?_, fun i hi => ?_⟩
    · show stepE (roundTo E d k) (nth E k) = (d, false)
      rw [a]; unfold stepE; rw [if_neg h3]
    · by_cases hik : i = k
      · subst hik; exact h3
      · exact b i (by omega)
/-- Is another round due? -/
def flagE (E : List Edge) (d : List Int) : Nat → Bool
  | 0 => true
  | j + 1 => (roundE E (itE E d j)).2
end
end Go.Eng
end

section
/- Abstractions: the distances of all states, found in two ways. -/


set_option linter.unusedVariables false
set_option linter.unusedSimpArgs false
set_option linter.unusedSectionVars false
namespace Go.Eng
open Go

def nS (a : Abs) : Nat := a.states.toNat
def edgesOf (a : Abs) (c : List Int) : List Edge := a.arcs.map fun r => ⟨r.fr, r.to, nth c r.lab⟩
/-- The costs of all labels are there and in range. -/
abbrev CostFor (a : Abs) (c : List Int) : Prop := (c.length : Int) = a.labels ∧ ∀ i : Nat, i < c.length → 0 ≤ nth c i ∧ nth c i ≤ 1000000
def initG (a : Abs) : List Int := (List.range (nS a)).map fun (x : Nat) => if (x : Int) ∈ a.goals then 0 else 1000000000
/-- The distances to the goals. -/
noncomputable def distL (a : Abs) (c : List Int) : List Int := fixE (edgesOf a c) (initG a)

/-! ### The goals, one by one -/
def goalSet (a : Abs) : Nat → List Int
  | 0 => List.replicate (nS a) 1000000000
  | k + 1 => setI (goalSet a k) (nth a.goals k) 0
theorem mem_nth {l : List Int} {x : Int} : x ∈ l ↔ ∃ i : Nat, i < l.length ∧ nth l i = x := by
  constructor
  · intro h
    obtain ⟨i, hi, rfl⟩ := List.getElem_of_mem h
    exact ⟨i, hi, nth_eq hi⟩
  · rintro ⟨i, hi, rfl⟩
    exact nth_mem (by omega) (by omega)
/-! ### The nearest state is settled first -/
def fillD (a : Abs) (k : Nat) : List Int := (List.range (nS a)).map fun (x : Nat) => if x < k then (if (x : Int) ∈ a.goals then 0 else 1000000000) else 0
def bestD (d : List Int) (s : List Bool) : Nat → Int
  | 0 => -1
  | k + 1 => if nth s k = false ∧ nth d k < 1000000000 ∧ (bestD d s k < 0 ∨ nth d k < nth d (bestD d s k)) then k else bestD d s k
def relaxTo (a : Abs) (c : List Int) (b : Int) (d : List Int) : Nat → List Int
  | 0 => d
  | i + 1 => if (nth a.arcs i).to = b then setI (relaxTo a c b d i) (nth a.arcs i).fr (min (nth (relaxTo a c b d i) (nth a.arcs i).fr) (nth (relaxTo a c b d i) b + nth c (nth a.arcs i).lab)) else relaxTo a c b d i
section
variable {a : Abs} {c : List Int} (ha : AbsOk a) (hc : CostFor a c)
include ha hc
end
/-- Between two rounds. -/
structure DInv (a : Abs) (c : List Int) (d : List Int) (s : List Bool) : Prop where
  good : GoodD (nS a) d
  sl : s.length = nS a
  le0 : ∀ x : Int, 0 ≤ x → x < nS a → nth d x ≤ nth (initG a) x
  ge : ∀ x : Int, 0 ≤ x → x < nS a → nth (distL a c) x ≤ nth d x
  ord : ∀ x y : Int, 0 ≤ x → x < nS a → 0 ≤ y → y < nS a → nth s x = true → nth s y = false → nth d x ≤ nth d y
  rel : ∀ i : Nat, i < a.arcs.length → nth s (nth a.arcs i).to = true → nth d (nth a.arcs i).fr ≤ nth d (nth a.arcs i).to + nth c (nth a.arcs i).lab
def openN (s : List Bool) : Nat := (s.filter fun b => !b).length
theorem openN_set : ∀ {s : List Bool} {i : Nat} (h : i < s.length), s[i] = false → openN (s.set i true) < openN s
  | b :: s, 0, h, hb => by
    simp at hb; subst hb
    simp [openN]
  | b :: s, i + 1, h, hb => by
    have := openN_set (s := s) (i := i) (by simpa using h) (by simpa using hb)
    simp only [openN, List.set_cons_succ, List.filter_cons] at this ⊢
    split <;> simp <;> exact this
def repTo (c : Int) (n k : Nat) : List Int := List.replicate k c ++ List.replicate (n - k) 0
section
variable {a : Abs} {c : List Int} (ha : AbsOk a) (hc : CostFor a c)
include ha hc
end
end Go.Eng
end

section
/- The abstraction of one variable: what is computed. -/

set_option linter.unusedVariables false
set_option linter.unusedSimpArgs false
set_option linter.unusedSectionVars false
namespace Go.Eng
open Go
/-- The value that a list assigns to a variable, or another one. -/
def findA (l : List Asg) (v other : Int) : Int := ((l.find? fun x => decide (x.1 = v)).map (·.2)).getD other
def goalsTo (m : Multi) (v : Int) : Nat → List Int
  | 0 => []
  | k + 1 => if findA m.goal v k = k then goalsTo m v k ++ [(k : Int)] else goalsTo m v k
def arcsIn (m : Multi) (v x : Int) : Nat → List Arc
  | 0 => []
  | j + 1 => if findA (nth m.ops j).pre v x = x then arcsIn m v x j ++ [⟨x, j, findA (nth m.ops j).post v x⟩] else arcsIn m v x j
def arcsTo (m : Multi) (v : Int) : Nat → List Arc
  | 0 => []
  | k + 1 => arcsTo m v k ++ arcsIn m v k m.ops.length
def atomA (m : Multi) (v : Int) : Abs := ⟨nth m.sizes v, m.ops.length, arcsTo m v (nth m.sizes v).toNat, nth m.init v, goalsTo m v (nth m.sizes v).toNat⟩
def atomF (m : Multi) (v : Int) : Int × Int := if validate m = (0, 0) then (if v < 0 ∨ m.sizes.length ≤ v then (3, -8) else (0, 0)) else validate m
def absZ : Abs := ⟨0, 0, [], 0, []⟩
def atomR (m : Multi) (v : Int) : Abs := if atomF m v = (0, 0) then atomA m v else absZ
/-! ### Distances of an abstraction, with their fault -/
def adF (a : Abs) (c : List Int) : Int × Int := if absFault a = (0, 0) then costFault c a.labels (-4) else absFault a
noncomputable def adR (a : Abs) (c : List Int) : List Int := if adF a c = (0, 0) then distL a c else []
open Classical in
noncomputable def tightTo (a : Abs) (c : List Int) (x : Int) (i : Nat) : Bool := decide (∃ j : Nat, j < i ∧ (nth a.arcs j).fr = x ∧ nth (distL a c) (nth a.arcs j).to < 1000000000 ∧ nth (distL a c) x = nth (distL a c) (nth a.arcs j).to + nth c (nth a.arcs j).lab)
end Go.Eng
end
