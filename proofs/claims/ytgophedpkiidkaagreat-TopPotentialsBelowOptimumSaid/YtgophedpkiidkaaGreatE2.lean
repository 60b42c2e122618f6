/- Part 2. -/
import Derived.Test.YtgophedpkiidkaaGreatE1
import Derived.Laws.CopyRow
import Derived.IntWalk
import Derived.ChangeKeysEq
import Derived.MapKept
import Derived.WideKeyRuns
import Derived.Carry
import Derived.KernelRfl
import Derived.Test.YtgophedpkiidkaaGreatProg
set_option linter.unusedSimpArgs false
set_option linter.unnecessarySimpa false
set_option linter.unusedVariables false
set_option linter.unusedSectionVars false
section
namespace Go.Eng
section
variable {P : Program} {B : Nat} {o : Oper} {e : Env} {M : Mem} {s : S}
theorem OpSem.clipL {t k : Nat} {x h m : Operand} {α : Type} {l : List α} {f : α → List D} (ho : o.op = .slice t x none (some h) (some m)) (hx : opS e x = some (.d (.s k (l.map f)))) (hh : opS e h = some (.d (.v (.int .i64 l.length))))
  (hm : opS e m = some (.d (.v (.int .i64 l.length)))) (ht : esz P t = some k) : OpSem P B o e M (.c k (l.map f)) none :=
 OpSem.clip ho hx (by simpa using hh) (by simpa using hm) ht
end
section
variable {P : Program} {N : Nat} {w0 : World} {O0 : Nat → Nat} {ops : Array Oper} {Q : Post} {e : Env} {M : Mem}
def killC (h : Nat) (cs : List S) : List S := cs.map fun s => bif S.ok 9 h s then s else .u
theorem Tr.ownNilBox {c : Code} (h h0 i k T : Nat) {cs : List S} (hne : Nat.beq h0 h = false) (hM : look M h0 = some (.box cs)) (hi : cs[i]? = some (.d (.v (.slice none 0 0))))
  (hc : Tr P N w0 O0 (kill h e) ((h, .own k T []) :: (h0, .box ((killC h cs).set i (.o h))) :: killM h M) c Q) : Tr P N w0 O0 e M c Q := by
 intro O H a w hst
 have hne' : h0 ≠ h := fun e => by subst e; simp at hne
 obtain ⟨H', hH'⟩ : ∃ H' : Nat → Value, H' = fun m => if m = h then (.slice none 0 0 : Value) else H m := ⟨_, rfl⟩
 have hh : H' h = .slice none 0 0 := by rw [hH']; simp
 have hk : Keep none (some h) O H w O H' w := ⟨fun _ _ => rfl, fun _ _ _ => rfl, fun n hn => by rw [hH']; simp; intro e; subst e; exact (hn rfl).elim⟩
 have hmem : ∀ h' m2, look M h' = some m2 → h' ≠ h → MHold O H' w0.heap.size w h' (m2.kill h) := fun h' m2 hm2 hn =>
  ((hst.mem h' m2 hm2).kill (h := h)).mono hk (by simp) (by simp; omega) 9 (fun h1 he => by cases he; exact Mo.kill_ok _ m2) (.inr (by omega))
 refine hc O H' a w ⟨hst.df, hst.sz, hst.bl, hst.lab, fun m s hs => ?_, fun m' m hm => ?_⟩
 ·obtain ⟨s', hs', hor⟩ := look_kill hs
  obtain ⟨y, hy, hr⟩ := hst.slots _ s' hs'
  rcases hor with ⟨hok, rfl⟩ | rfl
  ·exact ⟨y, hy, hr.mono hk 9 (fun h he => by cases he; exact hok) (.inr (by omega))⟩
  ·exact ⟨y, hy, .u y⟩
 ·rcases look_cons hm with ⟨rfl, rfl⟩ | ⟨hne, hm⟩
  ·exact .inl ⟨hh, rfl⟩
  ·rcases look_cons hm with ⟨rfl, rfl⟩ | ⟨_, hm⟩
   ·have h1 := hmem m' (.box cs) hM hne'
    have h2 := hst.mem m' (.box cs) hM
    obtain ⟨b, xs, T', hb1, hb2, hb3, hb4, hb5, hb6⟩ := h1
    obtain ⟨b', xs', T'', hb1', hb2', hb3', hb4', hb5', hb6'⟩ := h2
    have hsame : H' m' = H m' := by rw [hH']; simp [hne']
    rw [hsame, hb1'] at hb1
    obtain rfl : b' = b := by simpa using hb1
    rw [hb4'] at hb4
    obtain ⟨rfl, rfl⟩ : xs' = xs ∧ T'' = T' := by simpa using hb4
    refine ⟨b', xs', T'', by rw [hsame, hb1'], hb2, hb3, hb4', by simpa [killC] using hb5, fun j s hj => ?_⟩
    by_cases hji : i = j
    ·subst hji
     obtain ⟨x, hx, hr, h1⟩ := hb6' i _ hi
     have hlt : i < (killC h cs).length := by simp only [killC, List.length_map]; exact (List.getElem?_eq_some_iff.1 hi).1
     rw [List.getElem?_set_self hlt] at hj
     obtain rfl : S.o h = s := by simpa using hj
     have hxb : x = .slice none 0 0 := by
      cases hr with
      | d _ _ q => cases q with
       | v _ => rfl
     subst hxb
     refine ⟨_, hx, ?_, h1⟩
     have := RepS.o (O := O) (H := H') (w := w) h (by rw [hh]; rfl)
     rwa [hh] at this
    ·rw [List.getElem?_set_ne hji] at hj
     exact hb6 j s hj
   ·obtain ⟨m2, hm2, hor⟩ := look_killM hm
    rcases hor with rfl | ⟨hn, rfl⟩
    ·trivial
    ·exact hmem m' m2 hm2 hn
end
section
variable {P : Program} {N : Nat} {w0 : World} {O0 : Nat → Nat} {e : Env} {M : Mem}
theorem At.retO2 {fn : Func} {t h k T : Nat} {rows rows' : List (List D)} (hres : fn.results.toList = [.tmp t]) (ho : look e t = some (.o h)) (hM : look M h = some (.own k T rows))
  (hf : rows'.all (fun r => r.all fun d => match d with | .v _ => true | _ => false) = true) (hr : rows = rows') : At N w0 O0 e M .ret (bodyPost P fn (RetO w0 k T rows')) := by
 subst hr; exact At.retO hres ho hM hf rfl
end
def LeD (x y : D) : Prop := ∀ (O : Nat → Nat) (w : World) (v : Value), RepD O w v x → RepD O w v y
theorem LeD.nil (k : Nat) : LeD (.v (.slice none 0 0)) (.s k []) := fun O w v h => by
 cases h with
 | v _ => exact .e none 0 k (by simp [maxLen])
inductive LeR : List D → List D → Prop
 | nil : LeR [] []
 | cons {x y : D} {l l' : List D} (h : LeD x y) (t : LeR l l') : LeR (x :: l) (y :: l')
theorem LeR.get : ∀ {l l' : List D}, LeR l l' → l.length = l'.length ∧ ∀ (i : Nat) (y : D), l'[i]? = some y → ∃ x, l[i]? = some x ∧ LeD x y
 | _, _, .nil => ⟨rfl, fun i y h => by simp at h⟩
 | _, _, .cons h t => by
  obtain ⟨h1, h2⟩ := LeR.get t
  refine ⟨by simp [h1], fun i y hy => ?_⟩
  cases i with
  | zero => simp at hy; subst hy; exact ⟨_, rfl, h⟩
  | succ i => simp at hy ⊢; exact h2 i y hy
inductive LeRs : List (List D) → List (List D) → Prop
 | nil : LeRs [] []
 | cons {x y : List D} {l l' : List (List D)} (h : LeR x y) (t : LeRs l l') : LeRs (x :: l) (y :: l')
theorem LeRs.get : ∀ {l l' : List (List D)}, LeRs l l' → l.length = l'.length ∧ ∀ (i : Nat) (y : List D), l'[i]? = some y → ∃ x, l[i]? = some x ∧ LeR x y
 | _, _, .nil => ⟨rfl, fun i y h => by simp at h⟩
 | _, _, .cons h t => by
  obtain ⟨h1, h2⟩ := LeRs.get t
  refine ⟨by simp [h1], fun i y hy => ?_⟩
  cases i with
  | zero => simp at hy; subst hy; exact ⟨_, rfl, h⟩
  | succ i => simp at hy ⊢; exact h2 i y hy
theorem LeD.rows {k : Nat} {l l' : List (List D)} (h : LeRs l l') : LeD (.s k l) (.s k l') := fun O w v hr => by
 obtain ⟨hl, hg⟩ := h.get
 cases hr with
 | e a c k hm =>
  obtain rfl : l' = [] := List.eq_nil_of_length_eq_zero (by rw [← hl]; rfl)
  exact .e a c k hm
 | s b off c k rows y hc hm hw hO hy hr =>
  rw [hl]
  have key : ∀ (i : Nat) (r : List D) (j : Nat) (d : D), l'[i]? = some r → r[j]? = some d → ∃ r' d', l[i]? = some r' ∧ r'[j]? = some d' ∧ LeD d' d := fun i r j d hi hj => by
   obtain ⟨r', h1, h2⟩ := hg i r hi
   obtain ⟨d', h3, h4⟩ := h2.get.2 j d hj
   exact ⟨r', d', h1, h3, h4⟩
  refine .s b off c k l' y (by omega) hm (fun r hr' => ?_) (fun i r j d hi hj => ?_) (fun i r j d hi hj => ?_) (fun i r j d hi hj => ?_)
  ·obtain ⟨i, hi⟩ := List.mem_iff_getElem?.1 hr'
   obtain ⟨r', h1, h2⟩ := hg i r hi
   rw [← h2.get.1]
   exact hw r' (List.mem_of_getElem? h1)
  ·obtain ⟨r', d', h1, h2, _⟩ := key i r j d hi hj; exact hO i r' j d' h1 h2
  ·obtain ⟨r', d', h1, h2, _⟩ := key i r j d hi hj; exact hy i r' j d' h1 h2
  ·obtain ⟨r', d', h1, h2, h3⟩ := key i r j d hi hj; exact h3 O w _ (hr i r' j d' h1 h2)
theorem Le.ofD {x y : D} (h : LeD x y) : Le (.d x) (.d y) := fun O H w v hr => by
 cases hr with
 | d _ _ q => exact .d _ _ (h O w v q)
end Go.Eng
end

section
namespace Go.Eng
section
variable {P : Program} {B : Nat} {o : Oper} {e : Env} {M : Mem} {s : S}
theorem MHold.ownSome {O : Nat → Nat} {H : Nat → Value} {w : World} {h k T : Nat} {rows : List (List D)} (hm : MHold O H B w h (.own k T rows)) (hr : 0 < rows.length) :
  ∃ (b cap : Nat) (xs : Array Value), H h = .slice (some ⟨b, 0, none⟩) rows.length cap ∧ B ≤ b ∧ O b = h + 1 ∧
   w.heap[b]? = some (.cells xs T (0, 0)) ∧ rows.length ≤ cap ∧ cap ≤ maxLen ∧ xs.size = cap * k ∧ (∀ r, r ∈ rows → r.length = k) ∧
   ∀ (i : Nat) (r : List D) (j : Nat) (d : D), rows[i]? = some r → r[j]? = some d → ∃ x, xs[i * k + j]? = some x ∧ RepD O w x d ∧ x.oneCell' = true := by
 rcases hm with ⟨_, h1⟩ | h1
 ·rw [h1] at hr; simp at hr
 ·exact h1
end
section
variable {P : Program} {N : Nat} {w0 : World} {O0 : Nat → Nat} {ops : Array Oper} {Q : Post} {e e0 : Env} {M M0 : Mem} {hs : List Nat} {rest : List Oper} {o : Oper} {s : S} {id : Nat} {ps : List PO}
theorem TrOps.ofSt {h d : Nat} {m m' : Mo} (hst : OpSt P w0.heap.size o e h m m' s) (hM : look M h = some m) (hg : o.guard = none) (hd : o.dst = some d) (hdN : d < N)
  (hn : TrOps P N w0 O0 ops Q ((d, s) :: e) ((h, m') :: M) rest) : TrOps P N w0 O0 ops Q e M (o :: rest) := by
 intro O H a w h0
 refine wpList_plain hg fun K hK => Oper.wp_false (hst O H a w h0.bl.size (h0.slotsAt _) (h0.mem h m hM) _ fun w' x h1 h2 h3 h4 => hK _ _ (hn O H _ _ ⟨?_, ?_, h0.bl.trans (h2.mono (Nat.le_refl _)), h0.lab, ?_, fun h' mm hm => ?_⟩)) _
 ·rw [hd]; exact h0.df
 ·rw [hd]; simp [Act.put, h0.sz]
 ·rw [hd]
  refine put_slots h0.sz hdN h4 fun n s' hs' => ?_
  obtain ⟨z, hz, hr⟩ := h0.slots n s' hs'
  exact ⟨z, hz, hr.mono0 h1⟩
 ·rcases look_cons hm with ⟨rfl, rfl⟩ | ⟨hne, hm⟩
  ·exact h3
  ·exact (h0.mem h' mm hm).mono h1 (by intro e; cases e; exact hne rfl) (by simp) 0 (fun h he => by cases he) (.inl rfl)
end
section
variable {P : Program} {N : Nat} {w0 : World} {O0 : Nat → Nat} {Q : Post} {e : Env} {M : Mem}
end
section
variable {P : Program} {B : Nat} {o : Oper} {e : Env} {M : Mem} {s : S}
end
theorem OpSem.le {P : Program} {B : Nat} {o : Oper} {e : Env} {M : Mem} {s s' : S} {mo : Option (Nat × Mo)} (h : OpSem P B o e M s mo) (hl : Le s s') : OpSem P B o e M s' mo :=
 fun O H a w hB hs hm K hK => h O H a w hB hs hm K fun O' H' w' x h1 h2 h3 h4 => hK O' H' w' x h1 h2 (hl _ _ _ _ h3) h4
abbrev U (n : Int) : S := .d (.v (.int .u64 n))
def cvk (P : Program) (src dst : TypeId) : Option IntKind := match P.underlying src, P.underlying dst with
 | some _, some (.int k) => some k
 | _, _ => none
theorem OpSem.conv {P : Program} {B : Nat} {o : Oper} {e : Env} {M : Mem} {src dst : TypeId} {x : Operand} {k kx : IntKind} {n : Int} (ho : o.op = .convert src dst x) (hx : opS e x = some (.d (.v (.int kx n)))) (ht : cvk P src dst = some k) (hn : k.wrap n = n) : OpSem P B o e M (.d (.v (.int k n))) none :=
 .value fun O H a w hs _ => by
  have hx' := hs x (by simp [ho, Op.operands]) _ hx
  generalize hv : a.eval x = v at hx'
  have hh : ∃ d, P.underlying src = some d ∧ P.underlying dst = some (.int k) := by
   unfold cvk at ht
   split at ht
   ·rename_i d k' h1 h2; cases ht; exact ⟨d, h1, h2⟩
   ·cases ht
  obtain ⟨d, h1, h2⟩ := hh
  cases hx' with
  | d _ _ hx' => cases hx' with
   | v _ =>
    refine ⟨.int k n, ?_, .d _ _ (.v _)⟩
    have : (convert src dst (.int kx n)).run P w = .ok (.int k n) w := by simp [convert, run_underlying h1, run_underlying h2, Conv.intToInt, hn]
    simp [execOp, ho, hv, this]
theorem wrap_u64 {n : Int} (h0 : 0 ≤ n) (h1 : n ≤ 18446744073709551615) : IntKind.u64.wrap n = n := IntWalk.u64_in n ⟨h0, h1⟩
theorem wrap_i64 {n : Int} (h0 : -9223372036854775808 ≤ n) (h1 : n ≤ 9223372036854775807) : IntKind.i64.wrap n = n := IntWalk.i64_in n ⟨h0, h1⟩
theorem bshrK {t : TypeId} {k yk : IntKind} {m n : Int} (h0 : 0 ≤ n) (h1 : n ≤ k.bits) : binOp .shr t (.int k m) (.int yk n) = pure (.int k (m / 2 ^ n.toNat)) := by
 rw [binOp_shr]; exact shift_shr k yk m n h0 h1
end Go.Eng
end

section
namespace Go.Eng
def selfK (F i0 : Nat) (caps : List S) : Kr := {
 q O w x := ∃ (b : Nat) (ys : List Value), x = .pointer (some ⟨b, 0, none⟩) ∧ O b = 0 ∧ w.cell? ⟨b, 0, none⟩ = some (.func (.func F) #[] ys.toArray) ∧ ys.length = caps.length ∧ ys[i0]? = some x ∧ ∀ (i : Nat) (y : Value) (s : S), ys[i]? = some y → caps[i]? = some s → RepS O zH w y s
 mono := fun O w O' w' x hk ⟨b, ys, h1, h2, h3, h4, h6, h5⟩ => ⟨b, ys, h1, (hk b (World.block_lt_of_cell? w _ h3) h2).1, hk.cell h2 h3, h4, h6, fun i y s hy hs => (h5 i y s hy hs).keeps hk⟩ }
theorem OpSem.loadSelf {P : Program} {B : Nat} {o : Oper} {e : Env} {M : Mem} {t : TypeId} {x : Operand} {F i0 : Nat} {caps : List S} (ho : o.op = .load t x) (hx : opS e x = some (.a (selfK F i0 caps))) (ht : vsz P t = some (false, 1)) :
  OpSem P B o e M (.f F [] (caps.set i0 (.a (selfK F i0 caps)))) none :=
 .value fun O H a w hs _ => by
  have hx' := hs x (by simp [ho, Op.operands]) _ hx
  generalize hv : a.eval x = v at hx'
  cases hx' with
  | a _ _ hq =>
   have hq' := hq
   obtain ⟨b, ys, h1, h2, h3, h4, h6, h5⟩ := hq
   refine ⟨.func (.func F) #[] ys.toArray, by rw [h1] at hv; simp [execOp, ho, Instr.loadAt, Instr.sureAddr, hv, run_loadVar1 ht h3], ?_⟩
   refine RepS.f F [] ys [] (caps.set i0 (.a (selfK F i0 caps))) rfl (by simp [h4]) (fun i x s hx => by simp at hx) (fun i y s hy hs => ?_)
   by_cases hi : i0 = i
   ·subst hi
    have hlt : i0 < caps.length := by rw [← h4]; exact (List.getElem?_eq_some_iff.1 hy).1
    rw [List.getElem?_set_self hlt] at hs
    rw [h6] at hy
    cases hy; cases hs
    exact .a _ _ hq'
   ·rw [List.getElem?_set_ne hi] at hs
    exact (h5 i y s hy hs).anyH H
section
variable {P : Program} {B : Nat} {o : Oper} {e : Env} {M : Mem}
theorem OpSem.appendCF {x y : Operand} {t k T by_ : Nat} {rows rows2 : List (List D)} {zs : List Value} (ho : o.op = .call { callee := .builtin .append, args := #[x, y], argTypes := #[t, t] })
  (hx : opS e x = some (.c k rows)) (hy : opS e y = some (.d (.s k rows2))) (hk : esz P t = some k) (hT : P.elem t = T) (hz : zcells P T = some zs) (hzk : zs.length = k) (hk0 : 0 < k) (hby : P.bytesOf T = by_)
  (hone : ∀ r, r ∈ rows ++ rows2 → r.all D.one = true) (hne : 0 < rows2.length) (hlen : (rows.length + rows2.length) ≤ maxLen) (hroom : (rows.length + rows2.length) * by_ ≤ 140737488355328) :
  OpSem P B o e M (.d (.s k (rows ++ rows2))) none := by
 intro O H a w hB hs hm K hK
 have hr := hs x (by simp [ho, Op.operands, Call.operands]) _ hx
 have hv := hs y (by simp [ho, Op.operands, Call.operands]) _ hy
 generalize hxa : a.eval x = xa at hr
 generalize hya : a.eval y = ya at hv
 obtain ⟨hu, i, hi, hik⟩ := esz_spec hk
 rw [hT] at hu hi
 have hbi : i.bytes = by_ := by simpa [Program.bytesOf, hi] using hby
 obtain ⟨z, hiz, hzc⟩ : ∃ z, i.zero = some z ∧ z.cells = zs.toArray := by
  unfold zcells at hz
  cases hq : i.zero with
  | none => simp [hi, hq] at hz
  | some z => simp [hi, hq] at hz; exact ⟨z, rfl, by rw [← hz]⟩
 have hzz : z.cells.size = k := by rw [hzc]; simpa using hzk
 obtain ⟨a2, c2, rfl, hv2⟩ : ∃ a2 c2, ya = .slice (some a2) rows2.length c2 ∧ RepD O w (.slice (some a2) rows2.length c2) (.s k rows2) := by
  cases hv with
  | d _ _ q => cases q with
   | e => simp at hne
   | s b off c _ _ yv h1 h2 h3 h4 h5 h6 => exact ⟨⟨b, off, none⟩, c, rfl, .s b off c k rows2 yv h1 h2 h3 h4 h5 h6⟩
 obtain ⟨_, news, hn1, hn2⟩ := hv2.cellsL hk0
 have finish : ∀ (x' : Value) (cap : Nat) (vals : List Value), RowsIn O w k vals (rows ++ rows2) → x' = .slice (some ⟨w.heap.size, 0, none⟩) (rows.length + rows2.length) cap → rows.length + rows2.length ≤ cap → cap ≤ maxLen →
   (execOp a.eval o).run P w = .ok (.value x') (w.drew.alloc (.cells (vals.toArray ++ Builtin.zeroCells z.cells (cap - (rows.length + rows2.length))) T)) → o.wp P a w K (fun _ _ _ => False) := by
  intro x' cap vals hvals hx' hc1 hc2 hrun
  unfold Oper.wp
  rw [hrun]
  have hkp : Keeps O w (fun b' => if b' = w.heap.size then 0 else O b') (w.drew.alloc (.cells (vals.toArray ++ Builtin.zeroCells z.cells (cap - (rows.length + rows2.length))) T)) :=
   fun b' hb' hO => ⟨by simp [Nat.ne_of_lt hb', hO], heap_alloc_old w.drew _ hb'⟩
  refine hK (fun b' => if b' = w.heap.size then 0 else O b') H _ x' ⟨fun b' hb' => by simp [Nat.ne_of_lt hb'], fun b' hb' _ => heap_alloc_old w.drew _ hb', fun n hn => rfl⟩
   ⟨rfl, rfl, rfl, by simp, fun b' hb' => heap_alloc_old w.drew _ (by simp; omega), Nat.le_succ _⟩ ?_ (fun h' m he => by cases he)
  refine .d _ _ ?_
  rw [hx']
  have hcl : ∀ (q : Nat) (v : Value), vals[q]? = some v → (w.drew.alloc (.cells (vals.toArray ++ Builtin.zeroCells z.cells (cap - (rows.length + rows2.length))) T)).cell? ⟨w.heap.size, 0 + q, none⟩ = some v := fun q v hv => by
   rw [Nat.zero_add]
   have hlt := (List.getElem?_eq_some_iff.1 hv).1
   have hn := heap_alloc_new w.drew (.cells (vals.toArray ++ Builtin.zeroCells z.cells (cap - (rows.length + rows2.length))) T)
   refine cellOf hn ?_
   rw [Array.getElem?_append_left (by simpa using hlt)]; simpa using hv
  have hla : rows.length + rows2.length = (rows ++ rows2).length := by simp
  generalize hw' : (w.drew.alloc (.cells (vals.toArray ++ Builtin.zeroCells z.cells (cap - (rows.length + rows2.length))) T)) = w' at hkp hcl ⊢
  rw [hla]
  refine .s w.heap.size 0 cap k (rows ++ rows2) (fun q => (vals[q]?).getD undef) (by simpa using hc1) hc2 hvals.2.1 (fun i' r j d hi' hj => by simp) (fun i' r j d hi' hj => ?_) (fun i' r j d hi' hj => ?_)
  ·obtain ⟨v, hv, hrep⟩ := hvals.2.2 i' r j d hi' hj
   rw [hv]; exact hcl _ v hv
  ·obtain ⟨v, hv, hrep⟩ := hvals.2.2 i' r j d hi' hj
   rw [hv]; exact hrep.mono hkp
 have hnl : news.length = rows2.length * i.size := by rw [hn1.1, hik]
 cases hr with
 | c ad _ _ hrd =>
  cases ad with
  | none =>
   have hr0 : rows = [] := hrd.noneNil rfl
   subst hr0
   simp only [List.length_nil, Nat.zero_add] at hlen hroom
   have hrun := run_append_nil (P := P) w t o.type T i z hu hi hiz a2 rows2.length c2 news hnl hn2 hne (by simp only [maxLen] at hlen; omega) (by rw [hbi]; omega)
   refine finish (.slice (some ⟨w.heap.size, 0, none⟩) rows2.length (grownCap w rows2.length 0 T)) (grownCap w rows2.length 0 T) news (by simpa using hn1) (by simp) (by simpa using grownCap_ge w rows2.length 0 T) (grownCap_le_maxLen w rows2.length 0 T hlen) ?_
   simp [execOp, ho, resolve, invoke, builtin, hxa, hya, hrun]
  | some a1 =>
   obtain ⟨_, olds, ho1, ho2⟩ := hrd.cellsL hk0
   have hrun := run_append_grow (P := P) w t o.type T i z hu hi hiz a1 rows.length rows.length olds (by rw [ho1.1, hik]) ho2 a2 rows2.length c2 news hnl hn2 (by omega) (by simp only [maxLen] at hlen; omega) (growslice_fits (by omega) (by rw [hbi]; exact hroom))
   refine finish (.slice (some ⟨w.heap.size, 0, none⟩) (rows.length + rows2.length) (grownCap w (rows.length + rows2.length) rows.length T)) (grownCap w (rows.length + rows2.length) rows.length T) (olds ++ news) (ho1.app hn1) rfl (grownCap_ge w (rows.length + rows2.length) rows.length T) (grownCap_le_maxLen w (rows.length + rows2.length) rows.length T hlen) ?_
   simp [execOp, ho, resolve, invoke, builtin, hxa, hya, hrun]
end
def fzb (h : Nat) (f : Nat → S) : Nat → S → S
 | 0, _ => .u
 | n + 1, s => match s with
  | .r h' k => bif Nat.beq h' h then f k else .r h' k
  | .o h' => bif Nat.beq h' h then .u else .o h'
  | .q h' a b c => bif Nat.beq h' h then .u else .q h' a b c
  | .w h' a b c => bif Nat.beq h' h then .u else .w h' a b c
  | .g cs => .g (cs.map (fzb h f n))
  | .t cs => .t (cs.map (fzb h f n))
  | .f fn fs cs => .f fn (fs.map (fzb h f n)) (cs.map (fzb h f n))
  | s => s
theorem fzb_rep {O O' : Nat → Nat} {H : Nat → Value} {w : World} {h : Nat} {f : Nat → S} (hk : Keeps O w O' w) (hf : ∀ (x : Value) (k : Nat), RepS O H w x (.r h k) → RepS O' H w x (f k)) : ∀ (n : Nat) (x : Value) (s : S), RepS O H w x s → RepS O' H w x (fzb h f n s)
 | 0, x, _, _ => .u x
 | n + 1, x, s, hr => by
  have hr' := hr
  cases hr with
  | d x y hh => exact hr'.keeps hk
  | g xs ss hl h1 hg =>
   refine .g xs _ (by simpa using hl) h1 fun i x s hx hs => ?_
   simp only [List.getElem?_map, Option.map_eq_some_iff] at hs
   obtain ⟨s', hs', rfl⟩ := hs
   exact fzb_rep hk hf n x s' (hg i x s' hx hs')
  | p => exact hr'.keeps hk
  | r h' b k hH =>
   simp only [fzb]
   cases hb : Nat.beq h' h with
   | true => have := Nat.eq_of_beq_eq_true hb; subst this; exact hf _ _ hr'
   | false => exact hr'.keeps hk
  | o h' h1 =>
   simp only [fzb]
   cases hb : Nat.beq h' h with
   | true => exact .u _
   | false => exact hr'.keeps hk
  | q h' b k i j len cap hH =>
   simp only [fzb]
   cases hb : Nat.beq h' h with
   | true => exact .u _
   | false => exact hr'.keeps hk
  | t xs ss hl hg =>
   refine .t xs _ (by simpa using hl) fun i x s hx hs => ?_
   simp only [List.getElem?_map, Option.map_eq_some_iff] at hs
   obtain ⟨s', hs', rfl⟩ := hs
   exact fzb_rep hk hf n x s' (hg i x s' hx hs')
  | f fn xs ys fs cs hl hl' hg hg' =>
   refine .f fn xs ys _ _ (by simpa using hl) (by simpa using hl') (fun i x s hx hs => ?_) (fun i x s hx hs => ?_)
   ·simp only [List.getElem?_map, Option.map_eq_some_iff] at hs
    obtain ⟨s', hs', rfl⟩ := hs
    exact fzb_rep hk hf n x s' (hg i x s' hx hs')
   ·simp only [List.getElem?_map, Option.map_eq_some_iff] at hs
    obtain ⟨s', hs', rfl⟩ := hs
    exact fzb_rep hk hf n x s' (hg' i x s' hx hs')
  | c => exact hr'.keeps hk
  | w h' b k lo len L C hH hl =>
   simp only [fzb]
   cases hb : Nat.beq h' h with
   | true => exact .u _
   | false => exact hr'.keeps hk
  | a => exact hr'.keeps hk
  | u => exact .u _
def Mo.fzb (h : Nat) (f : Nat → S) : Mo → Mo
 | .box cs => .box (cs.map (Go.Eng.fzb h f 9))
 | m => m
def fzbE (h : Nat) (f : Nat → S) (e : Env) : Env := e.map fun p => (p.1, fzb h f 9 p.2)
def fzbM (h : Nat) (f : Nat → S) (M : Mem) : Mem := M.map fun p => (p.1, bif Nat.beq p.1 h then .gone else p.2.fzb h f)
section
variable {P : Program} {N : Nat} {w0 : World} {O0 : Nat → Nat} {Q : Post} {e : Env} {M : Mem}
theorem St.freezeR {O : Nat → Nat} {H : Nat → Value} {a : Act} {w : World} {h : Nat} {cs : List S} {f : Nat → S} (hM : look M h = some (.box cs)) (hst : St N w0 O0 e M O H a w)
  (hf : ∀ b, H h = .pointer (some ⟨b, 0, none⟩) → w0.heap.size ≤ b → O b = h + 1 → MHold O H w0.heap.size w h (.box cs) → ∀ O', (∀ c, O' c = if c = b then 0 else O c) → ∀ (k : Nat), RepS O' H w (.pointer (some ⟨b, k, none⟩)) (f k)) :
  ∃ O', St N w0 O0 (fzbE h f e) (fzbM h f M) O' H a w := by
 have hmh := hst.mem h _ hM
 have hmh' := hmh
 obtain ⟨b, xs, T, hH, hB, hO, hb, hsz, hc⟩ := hmh
 obtain ⟨O', hO'⟩ : ∃ O' : Nat → Nat, O' = fun c => if c = b then 0 else O c := ⟨_, rfl⟩
 have hO'' : ∀ c, O' c = if c = b then 0 else O c := fun c => by rw [hO']
 have hk : Keeps O w O' w := fun c _ h0 => ⟨by rw [hO'']; split; rfl; exact h0, rfl⟩
 have hff := hf b hH hB hO hmh' O' hO''
 have hr : ∀ (n : Nat) (x : Value) (s : S), RepS O H w x s → RepS O' H w x (fzb h f n s) := fzb_rep hk fun x k hr => by
  cases hr with
  | r h' b' k hH' =>
   rw [hH] at hH'
   simp only [Value.pointer.injEq, Option.some.injEq, Addr.mk.injEq, and_true] at hH'
   subst hH'
   exact hff k
 refine ⟨O', hst.df, hst.sz, hst.bl, fun c hc' => ?_, fun n s hs => ?_, fun n m hm => ?_⟩
 ·rw [hO'', if_neg (by omega)]; exact hst.lab c hc'
 ·unfold fzbE at hs
  rw [look_map (fun _ v => fzb h f 9 v)] at hs
  obtain ⟨s', hs', rfl⟩ := Option.map_eq_some_iff.1 hs
  obtain ⟨x, hx, hrep⟩ := hst.slots n s' hs'
  exact ⟨x, hx, hr 9 x s' hrep⟩
 ·unfold fzbM at hm
  rw [look_map (fun (k : Nat) (v : Mo) => bif Nat.beq k h then Mo.gone else Mo.fzb h f v)] at hm
  obtain ⟨m', hm', rfl⟩ := Option.map_eq_some_iff.1 hm
  cases hbq : Nat.beq n h with
  | true => simp [MHold]
  | false =>
   have hne : n ≠ h := fun e => by subst e; simp at hbq
   simp only [cond_false]
   have hold := hst.mem n m' hm'
   cases m' with
   | gone => trivial
   | fr K => exact K.mono _ _ _ _ _ hk hold
   | any K => exact K.mono _ _ _ _ _ _ _ (fun b1 hb1 hO1 => ⟨hO1.elim (fun h0 => (hk b1 hb1 h0).1.trans h0.symm) (fun h1 => by rw [hO'', if_neg (fun e => by subst e; rw [hO] at h1; omega)]), rfl⟩) hold
   | box cs' =>
    obtain ⟨b1, xs1, T1, g1, g2, g3, g4, g5, g6⟩ := hold
    refine ⟨b1, xs1, T1, g1, g2, ?_, g4, by simpa [Mo.fzb] using g5, fun i s hi => ?_⟩
    ·rw [hO'', if_neg (fun e => by subst e; rw [hO] at g3; omega)]; exact g3
    ·simp only [List.getElem?_map, Option.map_eq_some_iff] at hi
     obtain ⟨s', hs', rfl⟩ := hi
     obtain ⟨x, hx, hrep, ho⟩ := g6 i s' hs'
     exact ⟨x, hx, hr 9 x s' hrep, ho⟩
   | own k T1 rows =>
    rcases hold with ⟨g1, g2⟩ | ⟨b1, cap, xs1, g1, g2, g3, g4, g5, g6, g7, g8, g9⟩
    ·exact .inl ⟨g1, g2⟩
    ·refine .inr ⟨b1, cap, xs1, g1, g2, ?_, g4, g5, g6, g7, g8, fun i r j d hi hj => ?_⟩
     ·rw [hO'', if_neg (fun e => by subst e; rw [hO] at g3; omega)]; exact g3
     ·obtain ⟨x, hx, hrep, ho⟩ := g9 i r j d hi hj
      exact ⟨x, hx, hrep.mono hk, ho⟩
theorem Tr.freezeR {c : Code} (h : Nat) {cs : List S} {ds : List D} (hM : look M h = some (.box cs)) (hd : cs.mapM S.toD = some ds) (hc : Tr P N w0 O0 (fzbE h (fun k => .p (ds.drop k)) e) (fzbM h (fun k => .p (ds.drop k)) M) c Q) : Tr P N w0 O0 e M c Q := by
 intro O H a w hst
 obtain ⟨O', hst'⟩ := hst.freezeR (f := fun k => .p (ds.drop k)) hM (fun b hH hB hO hm O' hO' k => by
  obtain ⟨b', xs, T, hH', hB', hO2, hb, hsz, hcc⟩ := hm
  rw [hH] at hH'
  simp only [Value.pointer.injEq, Option.some.injEq, Addr.mk.injEq, and_true] at hH'
  subst hH'
  obtain ⟨m1, m2⟩ := mapM_some hd
  have hkk : Keeps O w O' w := fun c _ h0 => ⟨by rw [hO']; split; rfl; exact h0, rfl⟩
  have key : ∀ (j : Nat) (d : D), ds[j]? = some d → ∃ x, xs[j]? = some x ∧ RepD O w x d := fun j d hj => by
   have hlt : j < cs.length := by rw [← m1]; exact (List.getElem?_eq_some_iff.1 hj).1
   have h1 := m2 j _ d (List.getElem?_eq_getElem hlt) hj
   obtain ⟨x, hx, hr, _⟩ := hcc j _ (List.getElem?_eq_getElem hlt)
   generalize cs[j] = s at h1 hr
   cases s <;> simp [S.toD] at h1
   subst h1
   cases hr with
   | d _ _ q => exact ⟨x, hx, q⟩
  refine .p b k (ds.drop k) (fun j => (xs[k + j]?).getD undef) (fun j d _ => by rw [hO', if_pos rfl]) (fun j d hj => ?_) (fun j d hj => ?_)
  ·rw [List.getElem?_drop] at hj
   obtain ⟨x, hx, _⟩ := key (k + j) d hj
   rw [hx]; exact cellOf hb hx
  ·rw [List.getElem?_drop] at hj
   obtain ⟨x, hx, hr⟩ := key (k + j) d hj
   rw [hx]; exact hr.mono hkk)
 exact hc O' H a w hst'
theorem Tr.freezeSelf {c : Code} (h i0 : Nat) {F : Nat} {cs0 caps : List S} (hM : look M h = some (.box [.f F [] cs0])) (hi0 : cs0[i0]? = some (.r h 0)) (hcs : caps = cs0.set i0 .u) (hcaps : (caps.zipIdx.all fun x => Nat.beq x.2 i0 || (match S.view [] 9 x.1 with | some _ => true | none => false)) = true)
  (hview : ∀ (i : Nat) (s s' : S), i ≠ i0 → caps[i]? = some s → S.view [] 9 s = some s' → s' = s)
  (hc : Tr P N w0 O0 (fzbE h (fun k => bif Nat.beq k 0 then .a (selfK F i0 caps) else .u) e) (fzbM h (fun k => bif Nat.beq k 0 then .a (selfK F i0 caps) else .u) M) c Q) : Tr P N w0 O0 e M c Q := by
 intro O H a w hst
 obtain ⟨O', hst'⟩ := hst.freezeR (f := fun k => bif Nat.beq k 0 then .a (selfK F i0 caps) else .u) hM (fun b hH hB hO hm O' hO' k => by
  cases k with
  | succ k => exact .u _
  | zero =>
   obtain ⟨b', xs, T, hH', hB', hO2, hb, hsz, hcc⟩ := hm
   rw [hH] at hH'
   simp only [Value.pointer.injEq, Option.some.injEq, Addr.mk.injEq, and_true] at hH'
   subst hH'
   have hkk : Keeps O w O' w := fun c _ h0 => ⟨by rw [hO']; split; rfl; exact h0, rfl⟩
   obtain ⟨x, hx, hr, _⟩ := hcc 0 _ rfl
   show RepS O' H w _ (.a (selfK F i0 caps))
   refine .a _ _ ?_
   cases hr with
   | f fn us ys fs cs hl hl' hg hg' =>
    have hus : us = [] := List.eq_nil_of_length_eq_zero (by simpa using hl)
    subst hus
    have hlt : i0 < ys.length := by rw [hl']; exact (List.getElem?_eq_some_iff.1 hi0).1
    have hzr := hg' i0 _ (.r h 0) (List.getElem?_eq_getElem hlt) hi0
    have hzv : ys[i0] = .pointer (some ⟨b, 0, none⟩) := by
     generalize ys[i0] = z at hzr
     cases hzr with
     | r h' b1 k hH1 =>
      rw [hH] at hH1
      simp only [Value.pointer.injEq, Option.some.injEq, Addr.mk.injEq, and_true] at hH1
      subst hH1; rfl
    refine ⟨b, ys, rfl, by rw [hO', if_pos rfl], cellOf hb hx, by rw [hcs, List.length_set]; exact hl', by rw [List.getElem?_eq_getElem hlt, hzv], fun i y s hy hs => ?_⟩
    by_cases hi : i = i0
    ·subst hi
     rw [hcs, List.getElem?_set_self (by rw [← hl']; exact hlt)] at hs
     cases hs; exact .u _
    ·have hs0 : cs0[i]? = some s := by
      rw [hcs, List.getElem?_set_ne (fun e => hi e.symm)] at hs
      exact hs
     have h1 := hg' i y s hy hs0
     have h2 := List.all_eq_true.1 hcaps (s, i) (List.mk_mem_zipIdx_iff_getElem?.2 hs)
     have hbe : Nat.beq i i0 = false := by cases hb : Nat.beq i i0 with
      | false => rfl
      | true => exact (hi (Nat.eq_of_beq_eq_true hb)).elim
     simp only [hbe, Bool.false_or] at h2
     cases hv : S.view [] 9 s with
     | none => rw [hv] at h2; cases h2
     | some s' =>
      have := hview i s s' hi hs hv
      subst this
      exact (RepS.view0 9 h1 hv).keeps hkk)
 exact hc O' H a w hst'
end
end Go.Eng
namespace Go.Eng
section
variable {P : Program} {B : Nat} {o : Oper} {e : Env} {M : Mem} {s : S}
end
end Go.Eng
end

section
namespace Go.Eng
def valS (H : Nat → Value) : Nat → S → Option Value
 | 0, _ => none
 | n + 1, s => match s with
  | .d (.v x) => some x
  | .o h => some (H h)
  | .g cs => (cs.mapM (valS H n)).map fun l => .agg l.toArray
  | .t cs => (cs.mapM (valS H n)).map fun l => .tuple l.toArray
  | .f fn [] [] => some (.func (.func fn) #[] #[])
  | _ => none
theorem valS_list {O : Nat → Nat} {H : Nat → Value} {w : World} {f : S → Option Value} : ∀ {xs : List Value} {ss : List S} {ys : List Value}, xs.length = ss.length →
  (∀ (i : Nat) (x : Value) (s : S) (y : Value), xs[i]? = some x → ss[i]? = some s → f s = some y → x = y) → ss.mapM f = some ys → xs = ys := by
 intro xs ss ys hl h hm
 obtain ⟨m1, m2⟩ := mapM_some hm
 refine List.ext_getElem (by rw [hl, m1]) fun i h1 h2 => ?_
 exact h i _ _ _ (List.getElem?_eq_getElem h1) (List.getElem?_eq_getElem (by omega)) (m2 i _ _ (List.getElem?_eq_getElem (by omega)) (List.getElem?_eq_getElem h2))
theorem valS_rep {O : Nat → Nat} {H : Nat → Value} {w : World} : ∀ (n : Nat) {x y : Value} {s : S}, RepS O H w x s → valS H n s = some y → x = y
 | 0, _, _, _, _, h => by simp [valS] at h
 | n + 1, x, y, s, hr, h => by
  cases hr with
  | d x d hd =>
   cases hd with
   | v x => simpa [valS] using h
   | e => simp [valS] at h
   | s => simp [valS] at h
  | g xs ss hl h1 hg =>
   simp only [valS, Option.map_eq_some_iff] at h
   obtain ⟨l, hl', rfl⟩ := h
   rw [valS_list (O := O) (H := H) (w := w) hl (fun i x s y hx hs hv => valS_rep n (hg i x s hx hs) hv) hl']
  | t xs ss hl hg =>
   simp only [valS, Option.map_eq_some_iff] at h
   obtain ⟨l, hl', rfl⟩ := h
   rw [valS_list (O := O) (H := H) (w := w) hl (fun i x s y hx hs hv => valS_rep n (hg i x s hx hs) hv) hl']
  | o h' h1 => simpa [valS] using h
  | f fn xs ys fs cs hl hl' hx hy =>
   cases fs with
   | nil =>
    cases cs with
    | nil =>
     cases xs with
     | nil =>
      cases ys with
      | nil => simpa [valS] using h
      | cons => simp at hl'
     | cons => simp at hl
    | cons => simp [valS] at h
   | cons => simp [valS] at h
  | p => simp [valS] at h
  | r => simp [valS] at h
  | q => simp [valS] at h
  | w => simp [valS] at h
  | a => simp [valS] at h
  | c => simp [valS] at h
  | u => simp [valS] at h
structure Touch (v : Value) (w w' : World) : Prop where
 os : w'.os = w.os
 tape : w'.tape = w.tape
 output : w'.output = w.output
 drawn : w.drawn ≤ w'.drawn
 size : w.heap.size ≤ w'.heap.size
 same : ∀ b, b < w.heap.size → v.ownBlock ≠ some b → w'.heap[b]? = w.heap[b]?
structure DoesWS (P : Program) (f : Nat) (args : Value → List Value) (res : Value) (k T : Nat) (rows rows' : List (List D)) : Prop where
 can : ∀ xs w, (callFunc f xs).run P w = .ok (.enter f xs) w
 run : ∀ (w : World) (v : Value), OwnVal 0 w v k T rows → Calls P f (args v).toArray w fun en w' => en = .returned res ∧ Touch v w w' ∧ OwnVal 0 w' v k T rows'
def plainB (rows : List (List D)) : Bool := rows.all fun r => r.all fun d => match d with | .v _ => true | _ => false
theorem MHold.ownVal {O : Nat → Nat} {H : Nat → Value} {B : Nat} {w : World} {h k T : Nat} {rows : List (List D)} (hm : MHold O H B w h (.own k T rows)) (hp : plainB rows = true) : OwnVal B w (H h) k T rows := by
 rcases hm with ⟨h0, rfl⟩ | ⟨b, cap, xs, hH, hB, hO, hb, hlc, hcm, hsz, hw, hc⟩
 ·exact .inl ⟨h0, rfl⟩
 ·refine .inr ⟨b, cap, xs, hH, hB, hb, hlc, hcm, hsz, hw, fun i r j d hi hj => ?_⟩
  obtain ⟨x, hx, hr, h1⟩ := hc i r j d hi hj
  have := List.all_eq_true.1 (List.all_eq_true.1 hp r (List.mem_of_getElem? hi)) d (List.mem_of_getElem? hj)
  cases hr with
  | v _ => exact ⟨x, hx, rfl, h1⟩
  | _ => simp at this
theorem OwnVal.weak {B B' : Nat} {w : World} {x : Value} {k T : Nat} {rows : List (List D)} (h : OwnVal B w x k T rows) (hB : B' ≤ B) : OwnVal B' w x k T rows := by
 rcases h with h | ⟨b, cap, xs, h1, h2, h3⟩
 ·exact .inl h
 ·exact .inr ⟨b, cap, xs, h1, by omega, h3⟩
theorem MHold.label {O : Nat → Nat} {H : Nat → Value} {B : Nat} {w : World} {h k T : Nat} {rows : List (List D)} (hm : MHold O H B w h (.own k T rows)) {b : Nat} (hb : (H h).ownBlock = some b) : O b = h + 1 ∧ B ≤ b ∧ b < w.heap.size := by
 rcases hm with ⟨h0, rfl⟩ | ⟨b', cap, xs, hH, hB, hO, hb', _⟩
 ·rw [h0] at hb; cases hb
 ·rw [hH] at hb
  simp only [Value.ownBlock, Option.some.injEq] at hb
  subst hb
  exact ⟨hO, hB, (Array.getElem?_eq_some_iff.1 hb').1⟩
section
variable {P : Program} {N : Nat} {w0 : World} {O0 : Nat → Nat} {ops : Array Oper} {Q : Post} {e : Env} {M : Mem} {rest : List Oper} {o : Oper} {s : S} {B : Nat}
theorem argsEq {a : Act} {O : Nat → Nat} {H : Nat → Value} {w : World} {as_ : Array Operand} {l : List S} {ys : List Value} (hs : ∀ x, x ∈ as_ → ∀ s, opS e x = some s → RepS O H w (a.eval x) s) (ha : opsS e as_.toList = some l) (hv : l.mapM (valS H 9) = some ys) : as_.toList.map a.eval = ys := by
 obtain ⟨a1, a2⟩ := opsS_rep (O := O) (H := H) (w := w) (a := a) as_.toList l ha (fun x hx s hs' => hs x (by simpa using hx) s hs')
 exact valS_list (O := O) (H := H) (w := w) (by simpa using a1) (fun i x s y hx hs hv => valS_rep 9 (a2 i x s hx hs) hv) hv
theorem run_callW {a : Act} {w : World} {fn : Nat} {g : Operand} {as_ : Array Operand} {ts : Array TypeId} {ys : List Value} (can : ∀ xs w, (callFunc fn xs).run P w = .ok (.enter fn xs) w) (ho : o.op = .call { callee := .value g, args := as_, argTypes := ts }) (hg : a.eval g = .func (.func fn) #[] #[]) (ha : as_.toList.map a.eval = ys) :
  (execOp a.eval o).run P w = .ok (.enter fn ys.toArray) w := by
 have := run_call (o := o) (xs := []) (zs := []) can a w g as_ ts ho hg ha
 simpa using this
theorem OpSt.callWS {h fn k T : Nat} {g : Operand} {as_ : Array Operand} {ts : Array TypeId} {rows rows' : List (List D)} {args : Value → List Value} {res : Value} {l : List S} (hspec : DoesWS P fn args res k T rows rows')
  (ho : o.op = .call { callee := .value g, args := as_, argTypes := ts }) (hg : opS e g = some (.f fn [] [])) (ha : opsS e as_.toList = some l) (hv : ∀ H, l.mapM (valS H 9) = some (args (H h))) (hp : plainB rows = true) (hr : ∀ O H w, RepS O H w res s) :
  OpSt P B o e h (.own k T rows) (.own k T rows') s := by
 intro O H a w hB hs hm K hK
 have hg' : a.eval g = .func (.func fn) #[] #[] := valS_rep 9 (hs g (by simp [ho, Op.operands, Call.operands]) _ hg) rfl
 have hargs := argsEq (a := a) (O := O) (H := H) (w := w) (as_ := as_) (fun x hx s hs' => hs x (by simp only [ho, Op.operands, Call.operands]; simpa using .inr hx) s hs') ha (hv H)
 unfold Oper.wp
 rw [run_callW hspec.can ho hg' hargs]
 refine (hspec.run w (H h) ((hm.ownVal hp).weak (Nat.zero_le _))).mono ?_
 rintro en w' ⟨rfl, ht, hv'⟩
 have hk : Keep (some h) none O H w O H w' := ⟨fun _ _ => rfl, fun b hb hne => ht.same b hb fun e => hne h rfl (hm.label e).1, fun _ _ => rfl⟩
 refine hK w' _ hk ⟨ht.os, ht.tape, ht.output, ht.size, fun b hb => ht.same b (by omega) fun e => ?_, ht.drawn⟩ ?_ (hr _ _ _)
 ·have := (hm.label e).2.1; omega
 ·rcases hv' with ⟨h0, rfl⟩ | ⟨b, cap, xs, h0, _, hb, hlc, hcm, hsz, hw, hc⟩
  ·exact .inl ⟨h0, rfl⟩
  ·have hl := hm.label (b := b) (by rw [h0]; rfl)
   refine .inr ⟨b, cap, xs, h0, hl.2.1, hl.1, hb, hlc, hcm, hsz, hw, fun i r j d hi hj => ?_⟩
   obtain ⟨x, hx, rfl, h1⟩ := hc i r j d hi hj
   exact ⟨x, hx, .v x, h1⟩
def frK (Oc : Nat → Nat) (W : World) : Kr := {
 q O w _ := Keeps Oc W O w
 mono := fun O w O' w' x hk h => h.trans hk }
end
end Go.Eng
end

section
namespace Go.Eng
inductive DropR (d : Nat) : Env → Env → Prop
 | nil : DropR d [] []
 | hit {n : Nat} {s : S} {e e2 : Env} (h : Nat.beq n d = true) : DropR d e e2 → DropR d ((n, s) :: e) e2
 | miss {n : Nat} {s : S} {e e2 : Env} (h : Nat.beq n d = false) : DropR d e e2 → DropR d ((n, s) :: e) ((n, s) :: e2)
section
variable {P : Program} {N : Nat} {w0 : World} {O0 : Nat → Nat} {ops : Array Oper} {Q : Post} {e0 : Env} {M0 : Mem} {hs : List Nat}
def parOkL (ops : Array Oper) (k f : Nat) : Bool :=
 let ds : List (Option Nat) := ops.toList.map (·.dst)
 decide (f < k) && (List.range ops.size).all fun i => match ops[i]? with
  | none => false
  | some o =>
   (o.after.all fun e => !(Region.binds .any e) || decide (e.on < i)) &&
   (if i < k then
    (List.range k).all fun j => match ds.getD j none with
     | some d => (i == j || o.dst != some d) && (!((tmpsOf ops o).contains d) || (decide (j < i) && prec ops 9 i j) || (decide (i < j) && prec ops 9 j i))
     | none => true
   else (List.range i).all fun j => (i == k && j == f) || prec ops 9 i j)
theorem parOkL_hd {ops : Array Oper} {k f : Nat} (hok : parOkL ops k f = true) : ParHd ops k := by
 intro i o hik ho
 unfold parOkL at hok
 simp only [Bool.and_eq_true, List.all_eq_true, List.mem_range] at hok
 have := hok.2 i (Array.getElem?_eq_some_iff.1 ho).1
 simp only [ho, hik, if_true, Bool.and_eq_true] at this
 exact this.2
def dropE (d : Nat) (e : Env) : Env := e.filter fun x => !(Nat.beq x.1 d)
theorem look_dropE {d n : Nat} {s : S} : ∀ {e : Env}, look (dropE d e) n = some s → n ≠ d ∧ look e n = some s
 | [], h => by simp [dropE, look] at h
 | (a, b) :: e, h => by
  unfold dropE at h
  rw [List.filter_cons] at h
  split at h
  ·rename_i hx
   rcases look_cons h with ⟨rfl, rfl⟩ | ⟨hne, h⟩
   ·exact ⟨fun e => by subst e; simp at hx, look_cons_same _ _ _⟩
   ·obtain ⟨h1, h2⟩ := look_dropE (e := e) h
    refine ⟨h1, ?_⟩
    simp only [look]
    have : Nat.beq a n = false := by cases hb : Nat.beq a n with
     | false => rfl
     | true => exact (hne (Nat.eq_of_beq_eq_true hb).symm).elim
    rw [this]; exact h2
  ·rename_i hx
   obtain ⟨h1, h2⟩ := look_dropE (e := e) h
   refine ⟨h1, ?_⟩
   have ha : a = d := by simp at hx; exact hx
   simp only [look]
   have : Nat.beq a n = false := by cases hb : Nat.beq a n with
    | false => rfl
    | true => exact (h1 ((Nat.eq_of_beq_eq_true hb).symm.trans ha)).elim
   rw [this]; exact h2
theorem par_late {k f : Nat} {ps : List PO} {pf : PO} {ok of : Oper} (hpw : PW P w0.heap.size ops hs M0 (ops.toList.take k) ps e0) (hk : k ≤ ops.size) (hok : parOkL ops k f = true) (hh : handOk e0 M0 ps = true) (hso : stOk hs ps = true) (hN : ∀ p, p ∈ ps → p.ds = true → p.d < N)
  (hpf : ps[f]? = some pf) (hpfs : pf.st = none) (hpfm : pf.mo = none) (hpfd : pf.ds = true) (hokk : ops[k]? = some ok) (hof : ops[f]? = some of)
  (ht : TrOps P N w0 O0 ops Q (finE e0 ps) (finM M0 ps) (ops.toList.drop k)) (htl : TrOps P N w0 O0 ops Q (finE (dropE pf.d e0) (ps.eraseIdx f)) (finM M0 (ps.eraseIdx f)) (ok :: of :: ops.toList.drop (k + 1))) :
  ∀ (fuel : Nat) (L : Array Bool) (a : Act) (w : World), L.size = ops.size → (∀ i, i < ops.size → L.getD i false = false → fuel ≠ 0) → ((List.range ops.size).filter fun i => !L.getD i false).length ≤ fuel →
   (∀ i, L.getD i false = true → ∀ o, ops[i]? = some o → ∀ e, e ∈ o.after → Region.binds .any e = true → L.getD e.on false = true) →
   ((∃ O H, PSt N w0 O0 e0 hs M0 ps L O H a w ∧ ∀ i, k ≤ i → L.getD i false = false) ∨ (∃ i0, k ≤ i0 ∧ (∀ i, i < ops.size → (L.getD i false = true ↔ i < i0)) ∧ i0 ≤ ops.size ∧ wpList P ops Q (ops.toList.drop i0) a w) ∨ ((∀ i, i < ops.size → (L.getD i false = true ↔ (i < k + 1 ∧ i ≠ f))) ∧ wpList P ops Q (of :: ops.toList.drop (k + 1)) a w)) →
   wpAny P .any ops Q fuel L a w := by
 have hops : ∀ i, i < ops.size → ∃ o, ops[i]? = some o := fun i hi => ⟨ops[i], Array.getElem?_eq_getElem hi⟩
 have hfk : f < k := by unfold parOkL at hok; simp only [Bool.and_eq_true, decide_eq_true_eq] at hok; exact hok.1
 have hkn : k < ops.size := (Array.getElem?_eq_some_iff.1 hokk).1
 have hlenp : ps.length = k := by have := hpw.get.1; rw [← this]; simp; omega
 have hchk : ∀ i o, ops[i]? = some o → (∀ e, e ∈ o.after → Region.binds .any e = true → e.on < i) ∧ (k ≤ i → ∀ j, j < i → ¬ (i = k ∧ j = f) → prec ops 9 i j = true) := by
  intro i o ho
  have hi : i < ops.size := (Array.getElem?_eq_some_iff.1 ho).1
  unfold parOkL at hok
  simp only [Bool.and_eq_true, List.all_eq_true, List.mem_range] at hok
  have := hok.2 i hi
  simp only [ho, Bool.and_eq_true] at this
  obtain ⟨h1, h2⟩ := this
  refine ⟨fun e he hb => ?_, fun hki j hj hne => ?_⟩
  ·have := Array.all_eq_true'.1 h1 e he
   simp only [hb, Bool.not_true, Bool.false_or, decide_eq_true_eq] at this
   exact this
  ·rw [if_neg (by omega)] at h2
   have h3 := List.all_eq_true.1 h2 j (List.mem_range.2 hj)
   simp only [Bool.or_eq_true, Bool.and_eq_true, beq_iff_eq] at h3
   exact h3.resolve_left hne
 have turn : ∀ (L : Array Bool) (a : Act) (w : World), L.size = ops.size → (∀ i, i < k → L.getD i false = true) → (∀ i, k ≤ i → L.getD i false = false) → (∃ O H, PSt N w0 O0 e0 hs M0 ps L O H a w) →
   (∀ i, i < ops.size → (L.getD i false = true ↔ i < k)) ∧ wpList P ops Q (ops.toList.drop k) a w := by
  rintro L a w hL h1 h2 ⟨O, H, hst⟩
  refine ⟨fun i hi => ⟨fun h => ?_, h1 i⟩, ht O H a w ⟨hst.df, hst.sz, hst.bl, hst.lab, fun n s hs => ?_, fun h m hm => ?_⟩⟩
  ·rcases Nat.lt_or_ge i k with h' | h'
   ·exact h'
   ·rw [h2 i h'] at h; cases h
  ·have hlen : ps.length = k := by have := hpw.get.1; rw [← this]; simp; omega
   rcases look_finE hs with ⟨i, p, hp, hps, rfl, rfl⟩ | ⟨h1', h2'⟩
   ·exact hst.new i p hp hps (h1 i (by rw [← hlen]; exact (List.getElem?_eq_some_iff.1 hp).1))
   ·exact hst.old n s h2' (fun j p hj hs he => absurd he (h1' p (List.mem_of_getElem? hj) hs))
  ·have hlen : ps.length = k := by have := hpw.get.1; rw [← this]; simp; omega
   rcases look_finM hm with ⟨i, p, hp, hps, hmo⟩ | ⟨i, p, m0, hp, hps⟩ | ⟨hns, hm⟩
   ·exact hst.mnew i p h m hp (h1 i (by rw [← hlen]; exact (List.getElem?_eq_some_iff.1 hp).1)) hps hmo
   ·have := hst.sto i p h m0 m hp hps
    rwa [if_pos (h1 i (by rw [← hlen]; exact (List.getElem?_eq_some_iff.1 hp).1))] at this
   ·refine hst.mold h m (look_dropM_of (fun hin => ?_) hm)
    unfold stOk at hso
    simp only [Bool.and_eq_true] at hso
    obtain ⟨p, hp, he⟩ := List.any_eq_true.1 (List.all_eq_true.1 hso.2 h hin)
    cases hps : p.st with
    | none => rw [hps] at he; cases he
    | some x =>
     obtain ⟨h', m0, m1⟩ := x
     rw [hps] at he
     exact hns p hp h' m0 m1 hps (Nat.eq_of_beq_eq_true he)
 have erase : ∀ (i : Nat) (p : PO), (ps.eraseIdx f)[i]? = some p → ∃ i', i' ≠ f ∧ i' < k ∧ ps[i']? = some p := by
  intro i p hp
  rw [List.getElem?_eraseIdx] at hp
  split at hp
  ·exact ⟨i, by omega, by rw [← hlenp]; exact (List.getElem?_eq_some_iff.1 hp).1, hp⟩
  ·exact ⟨i + 1, by omega, by rw [← hlenp]; exact (List.getElem?_eq_some_iff.1 hp).1, hp⟩
 have erase2 : ∀ (i : Nat) (p : PO), i ≠ f → ps[i]? = some p → p ∈ ps.eraseIdx f := by
  intro i p hne hp
  by_cases h : i < f
  ·exact List.mem_of_getElem? (i := i) (by rw [List.getElem?_eraseIdx, if_pos h]; exact hp)
  ·refine List.mem_of_getElem? (i := i - 1) ?_
   rw [List.getElem?_eraseIdx, if_neg (by omega)]
   have : i - 1 + 1 = i := by omega
   rw [this]; exact hp
 have turnL : ∀ (L : Array Bool) (a : Act) (w : World), L.size = ops.size → (∀ i, i < k → i ≠ f → L.getD i false = true) → (∃ O H, PSt N w0 O0 e0 hs M0 ps L O H a w) →
   wpList P ops Q (ok :: of :: ops.toList.drop (k + 1)) a w := by
  rintro L a w hL h1 ⟨O, H, hst⟩
  refine htl O H a w ⟨hst.df, hst.sz, hst.bl, hst.lab, fun n s hs => ?_, fun h m hm => ?_⟩
  ·rcases look_finE hs with ⟨i, p, hp, hps, rfl, rfl⟩ | ⟨h1', h2'⟩
   ·obtain ⟨i', h3, h4, h5⟩ := erase i p hp
    exact hst.new i' p h5 hps (h1 i' h4 h3)
   ·obtain ⟨h3, h4⟩ := look_dropE h2'
    refine hst.old n s h4 fun j p hj hps he => absurd he ?_
    have hp := List.mem_of_getElem? hj
    obtain ⟨i, hi⟩ := List.getElem?_of_mem hp
    by_cases hif : i = f
    ·subst hif; rw [hpf] at hi; cases hi; exact fun e => h3 e.symm
    ·exact h1' p (erase2 i p hif hi) hps
  ·rcases look_finM hm with ⟨i, p, hp, hps, hmo⟩ | ⟨i, p, m0, hp, hps⟩ | ⟨hns, hm⟩
   ·obtain ⟨i', h3, h4, h5⟩ := erase i p hp
    exact hst.mnew i' p h m h5 (h1 i' h4 h3) hps hmo
   ·obtain ⟨i', h3, h4, h5⟩ := erase i p hp
    have := hst.sto i' p h m0 m h5 hps
    rwa [if_pos (h1 i' h4 h3)] at this
   ·refine hst.mold h m (look_dropM_of (fun hin => ?_) hm)
    unfold stOk at hso
    simp only [Bool.and_eq_true] at hso
    obtain ⟨p, hp, he⟩ := List.any_eq_true.1 (List.all_eq_true.1 hso.2 h hin)
    cases hps : p.st with
    | none => rw [hps] at he; cases he
    | some x =>
     obtain ⟨h', m0, m1⟩ := x
     rw [hps] at he
     obtain ⟨i, hi⟩ := List.getElem?_of_mem hp
     have hif : i ≠ f := fun e => by subst e; rw [hpf] at hi; cases hi; rw [hpfs] at hps; cases hps
     exact hns p (erase2 i p hif hi) h' m0 m1 hps (Nat.eq_of_beq_eq_true he)
 have hrd : ∀ (L : Array Bool) (i : Nat), L.size = ops.size → i ∈ Region.ready .any ops L → i < ops.size ∧ L.getD i false = false ∧ ∀ o, ops[i]? = some o → ∀ e, e ∈ o.after → Region.binds .any e = true → L.getD e.on false = true := by
  intro L i hL hi
  unfold Region.ready at hi
  rw [List.mem_filter] at hi
  obtain ⟨h1, h2⟩ := hi
  rw [List.mem_range] at h1
  simp only [Bool.and_eq_true, Bool.not_eq_true'] at h2
  obtain ⟨h2, h3⟩ := h2
  refine ⟨h1, ?_, fun o ho e he hb => ?_⟩
  ·simpa [Array.getD_eq_getD_getElem?, Array.getElem?_eq_getElem (by omega : i < L.size)] using h2
  ·simp only [ho, Option.map_some, Option.getD_some] at h3
   have := Array.all_eq_true'.1 h3 e he
   simpa [hb] using this
 have hnone : ∀ (L : Array Bool), L.size = ops.size → Region.ready .any ops L = [] → ∀ i, i < ops.size → L.getD i false = true := by
  intro L hL hr i
  induction i using Nat.strongRecOn with
  | _ i ih =>
   intro hi
   cases hl : L.getD i false with
   | true => rfl
   | false =>
    exfalso
    obtain ⟨o, ho⟩ := hops i hi
    have : i ∈ Region.ready .any ops L := by
     unfold Region.ready
     rw [List.mem_filter]
     refine ⟨List.mem_range.2 hi, ?_⟩
     simp only [Bool.and_eq_true, Bool.not_eq_true']
     refine ⟨by simpa [Array.getD_eq_getD_getElem?, Array.getElem?_eq_getElem (by omega : i < L.size)] using hl, ?_⟩
     simp only [ho, Option.map_some, Option.getD_some, Array.all_eq_true', Bool.or_eq_true, Bool.not_eq_true']
     intro e he
     by_cases hb : Region.binds .any e = true
     ·exact .inr (ih e.on ((hchk i o ho).1 e he hb) (by have := (hchk i o ho).1 e he hb; omega))
     ·exact .inl (by simpa using hb)
    rw [hr] at this; cases this
 have hcl' : ∀ (L : Array Bool) (i : Nat), L.size = ops.size → i < ops.size → (∀ i, L.getD i false = true → ∀ o, ops[i]? = some o → ∀ e, e ∈ o.after → Region.binds .any e = true → L.getD e.on false = true) → (∀ o, ops[i]? = some o → ∀ e, e ∈ o.after → Region.binds .any e = true → L.getD e.on false = true) →
   ∀ j, (L.setIfInBounds i true).getD j false = true → ∀ o, ops[j]? = some o → ∀ e, e ∈ o.after → Region.binds .any e = true → (L.setIfInBounds i true).getD e.on false = true := by
  intro L i hL hi hcl hr j hj o ho e he hb
  rw [getD_set (by omega)] at hj ⊢
  split
  ·rfl
  ·by_cases hji : j = i
   ·subst hji; exact hr o ho e he hb
   ·rw [if_neg hji] at hj; exact hcl j hj o ho e he hb
 have hcount : ∀ (L : Array Bool) (i n : Nat), L.size = ops.size → i < ops.size → L.getD i false = false → ((List.range ops.size).filter fun i => !L.getD i false).length ≤ n + 1 → ((List.range ops.size).filter fun j => !(L.setIfInBounds i true).getD j false).length ≤ n := by
  intro L i n hL hi hl hc
  have : ((List.range ops.size).filter fun j => !(L.setIfInBounds i true).getD j false) = ((List.range ops.size).filter fun j => !L.getD j false).filter (fun j => j != i) := by
   rw [List.filter_filter]
   apply List.filter_congr
   intro j _
   rw [getD_set (by omega)]
   by_cases h : j = i <;> simp [h]
  rw [this]
  have hlt : (((List.range ops.size).filter fun j => !L.getD j false).filter (fun j => j != i)).length < ((List.range ops.size).filter fun j => !L.getD j false).length := by
   rw [List.length_filter_lt_length_iff_exists]
   exact ⟨i, List.mem_filter.2 ⟨List.mem_range.2 hi, by rw [hl]; rfl⟩, by simp⟩
  omega
 intro fuel
 induction fuel with
 | zero =>
  intro L a w hL hf hc hcl hJ
  have hall : ∀ i, i < ops.size → L.getD i false = true := fun i hi => by
   cases hl : L.getD i false with
   | true => rfl
   | false => exact absurd rfl (hf i hi hl)
  refine ⟨?_, ?_⟩
  ·rw [List.eq_nil_iff_forall_not_mem]
   intro i hi
   obtain ⟨h1, h2, _⟩ := hrd L i hL hi
   rw [hall i h1] at h2; cases h2
  ·rcases hJ with ⟨O, H, hst, htail⟩ | ⟨i0, h1, h2, h3, h4⟩ | ⟨h3, _⟩
   ·have := htail k (Nat.le_refl _); rw [hall k hkn] at this; cases this
   ·have : i0 = ops.size := by
     rcases Nat.lt_or_ge i0 ops.size with h | h
     ·have := (h2 i0 h).1 (hall i0 h); omega
     ·omega
    rw [List.drop_eq_nil_of_le (by simp; omega)] at h4
    exact h4
   ·exact absurd rfl ((h3 f (by omega)).1 (hall f (by omega))).2
 | succ fuel ih =>
  intro L a w hL hf hc hcl hJ
  have next : ∀ (i : Nat) (a' : Act) (w' : World), i < ops.size → L.getD i false = false → (∀ o, ops[i]? = some o → ∀ e, e ∈ o.after → Region.binds .any e = true → L.getD e.on false = true) →
    ((∃ O H, PSt N w0 O0 e0 hs M0 ps (L.setIfInBounds i true) O H a' w' ∧ ∀ j, k ≤ j → (L.setIfInBounds i true).getD j false = false) ∨ (∃ i0, k ≤ i0 ∧ (∀ j, j < ops.size → ((L.setIfInBounds i true).getD j false = true ↔ j < i0)) ∧ i0 ≤ ops.size ∧ wpList P ops Q (ops.toList.drop i0) a' w') ∨ ((∀ j, j < ops.size → ((L.setIfInBounds i true).getD j false = true ↔ (j < k + 1 ∧ j ≠ f))) ∧ wpList P ops Q (of :: ops.toList.drop (k + 1)) a' w')) →
    wpAny P .any ops Q fuel (L.setIfInBounds i true) a' w' := by
   intro i a' w' hi hl hr hJ'
   have hcc := hcount L i fuel hL hi hl hc
   refine ih _ a' w' (by simpa using hL) (fun j hj hlj h0 => ?_) hcc (hcl' L i hL hi hcl hr) hJ'
   subst h0
   have : ((List.range ops.size).filter fun j => !(L.setIfInBounds i true).getD j false) = [] := List.eq_nil_of_length_eq_zero (by omega)
   have hm : j ∈ ((List.range ops.size).filter fun j => !(L.setIfInBounds i true).getD j false) := List.mem_filter.2 ⟨List.mem_range.2 hj, by rw [hlj]; rfl⟩
   rw [this] at hm; cases hm
  have tail : ∀ (i0 : Nat), k ≤ i0 → (∀ i, i < ops.size → (L.getD i false = true ↔ i < i0)) → i0 ≤ ops.size → wpList P ops Q (ops.toList.drop i0) a w → ∀ i, i ∈ Region.ready .any ops L → wpOp P ops Q i (wpAny P .any ops Q fuel (L.setIfInBounds i true)) a w := by
   intro i0 h1 h2 h3 h4 i hi
   obtain ⟨hi1, hi2, hi3⟩ := hrd L i hL hi
   obtain ⟨o, ho⟩ := hops i hi1
   have hge : i0 ≤ i := by
    rcases Nat.lt_or_ge i i0 with h | h
    ·have := (h2 i hi1).2 h; rw [hi2] at this; cases this
    ·exact h
   have hall : ∀ j, j < i → L.getD j false = true := fun j hj => by
    by_cases hjf : j = f
    ·rw [hjf]; exact (h2 f (by omega)).2 (by omega)
    ·exact prec_closed hcl 9 i j ((hchk i o ho).2 (by omega) j hj (fun h => hjf h.2)) hi3
   have hii : i = i0 := by
    rcases Nat.lt_or_ge i0 i with h | h
    ·have := (h2 i0 (by omega)).1 (hall i0 h); omega
    ·omega
   subst hii
   have hd : ops.toList.drop i = o :: ops.toList.drop (i + 1) := by
    rw [List.drop_eq_getElem_cons (by simpa using hi1)]
    congr 1
    have := (Array.getElem?_eq_some_iff.1 ho).2
    simpa using this
   rw [hd] at h4
   have hK : ∀ a' w', wpList P ops Q (ops.toList.drop (i + 1)) a' w' → wpAny P .any ops Q fuel (L.setIfInBounds i true) a' w' := fun a' w' hw' =>
    next i a' w' hi1 hi2 hi3 (.inr (.inl ⟨i + 1, by omega, fun j hj => by
     rw [getD_set (by omega)]
     by_cases hji : j = i
     ·simp [hji]
     ·rw [if_neg hji, h2 j hj]; omega, by omega, hw'⟩))
   unfold wpOp
   simp only [ho]
   simp only [wpList] at h4
   split
   ·rename_i hw
    rw [if_pos hw] at h4
    exact h4.imp (Oper.wp_mono hK) id
   ·rename_i hw
    rw [if_neg hw] at h4
    exact hK _ _ h4
  refine ⟨fun hr => ?_, fun i hi => ?_⟩
  ·have hall := hnone L hL hr
   rcases hJ with ⟨O, H, hst, htail⟩ | ⟨i0, h1, h2, h3, h4⟩ | ⟨h3, _⟩
   ·have := htail k (Nat.le_refl _); rw [hall k hkn] at this; cases this
   ·have : i0 = ops.size := by
     rcases Nat.lt_or_ge i0 ops.size with h | h
     ·have := (h2 i0 h).1 (hall i0 h); omega
     ·omega
    rw [List.drop_eq_nil_of_le (by simp; omega)] at h4
    exact h4
   ·exact absurd rfl ((h3 f (by omega)).1 (hall f (by omega))).2
  ·obtain ⟨hi1, hi2, hi3⟩ := hrd L i hL hi
   obtain ⟨o, ho⟩ := hops i hi1
   rcases hJ with ⟨O, H, hst, htail⟩ | ⟨i0, h1, h2, h3, h4⟩ | ⟨h3, h4⟩
   ·rcases Nat.lt_or_ge i k with hik | hik
    ·refine PSt.step hpw hk (parOkL_hd hok) hh hso hL hcl hst hik ho (hi3 o ho) hi2 hN _ fun O' H' a' w' hst' => ?_
     refine next i a' w' hi1 hi2 hi3 (.inl ⟨O', H', hst', fun j hj => ?_⟩)
     rw [getD_set (by omega), if_neg (by omega)]
     exact htail j hj
    ·have hik' : i = k := by
      rcases Nat.lt_or_ge k i with h | h
      ·have := prec_closed hcl 9 i k ((hchk i o ho).2 hik k h (fun hh => by omega)) hi3
       rw [htail k (Nat.le_refl _)] at this; cases this
      ·omega
     subst hik'
     have hall : ∀ j, j < i → j ≠ f → L.getD j false = true := fun j hj hjf => prec_closed hcl 9 i j ((hchk i o ho).2 hik j hj (fun h => hjf h.2)) hi3
     by_cases hfL : L.getD f false = true
     ·obtain ⟨t1, t2⟩ := turn L a w hL (fun j hj => by
       by_cases hjf : j = f
       ·rw [hjf]; exact hfL
       ·exact hall j hj hjf) htail ⟨O, H, hst⟩
      exact tail i (Nat.le_refl _) t1 hk t2 i hi
     ·have hfF : L.getD f false = false := by simpa using hfL
      have h4 := turnL L a w hL hall ⟨O, H, hst⟩
      rw [hokk] at ho
      cases ho
      have hK : ∀ a' w', wpList P ops Q (of :: ops.toList.drop (i + 1)) a' w' → wpAny P .any ops Q fuel (L.setIfInBounds i true) a' w' := fun a' w' hw' =>
       next i a' w' hi1 hi2 hi3 (.inr (.inr ⟨fun j hj => by
        rw [getD_set (by omega)]
        by_cases hji : j = i
        ·simp [hji]; omega
        ·rw [if_neg hji]
         by_cases hjf : j = f
         ·subst hjf; rw [hfF]; simp
         ·rcases Nat.lt_or_ge j i with h | h
          ·rw [hall j h hjf]; simp; omega
          ·rw [htail j h]; simp; omega, hw'⟩))
      unfold wpOp
      simp only [hokk]
      unfold wpList at h4
      split
      ·rename_i hw
       rw [if_pos hw] at h4
       exact h4.imp (Oper.wp_mono hK) id
      ·rename_i hw
       rw [if_neg hw] at h4
       exact hK _ _ h4
   ·exact tail i0 h1 h2 h3 h4 i hi
   ·have hif : i = f := by
     refine Decidable.byContradiction fun hne => ?_
     have h5 : ¬ i < k + 1 := fun h => by have := (h3 i hi1).2 ⟨h, hne⟩; rw [hi2] at this; cases this
     have h6 := prec_closed hcl 9 i f ((hchk i o ho).2 (by omega) f (by omega) (fun h => by omega)) hi3
     exact absurd rfl ((h3 f (by omega)).1 h6).2
    subst hif
    rw [hof] at ho
    cases ho
    have hK : ∀ a' w', wpList P ops Q (ops.toList.drop (k + 1)) a' w' → wpAny P .any ops Q fuel (L.setIfInBounds i true) a' w' := fun a' w' hw' =>
     next i a' w' hi1 hi2 hi3 (.inr (.inl ⟨k + 1, by omega, fun j hj => by
      rw [getD_set (by omega)]
      by_cases hji : j = i
      ·simp [hji]; omega
      ·rw [if_neg hji, h3 j hj]; omega, by omega, hw'⟩))
    unfold wpOp
    simp only [hof]
    unfold wpList at h4
    split
    ·rename_i hw
     rw [if_pos hw] at h4
     exact h4.imp (Oper.wp_mono hK) id
    ·rename_i hw
     rw [if_neg hw] at h4
     exact hK _ _ h4
theorem Tr.parL {id k f : Nat} {ps : List PO} {pf : PO} {ok of : Oper} (hm : P.follows .mixedOrders = true) (hpw : PW P w0.heap.size ops hs M0 (ops.toList.take k) ps e0) (hk : k ≤ ops.size) (hok : parOkL ops k f = true) (hh : handOk e0 M0 ps = true) (hso : stOk hs ps = true) (hN : ps.all (fun p => !p.ds || decide (p.d < N)) = true)
  (hpf : ps[f]? = some pf) (hpfs : pf.st = none) (hpfm : pf.mo = none) (hpfd : pf.ds = true) (hokk : ops[k]? = some ok) (hof : ops[f]? = some of)
  (ht : TrOps P N w0 O0 ops Q (finE e0 ps) (finM M0 ps) (ops.toList.drop k)) (htl : TrOps P N w0 O0 ops Q (finE (dropE pf.d e0) (ps.eraseIdx f)) (finM M0 (ps.eraseIdx f)) (ok :: of :: ops.toList.drop (k + 1))) : Tr P N w0 O0 e0 M0 (.region id ops true) Q := by
 intro O H a w hst
 have memD : ∀ h m, look M0 h = some m → MHold O H w0.heap.size w.drew h m := fun h m hm => MHold.mono (w := w) (w' := w.drew) (hb := none) (hh := none) (O := O) (O' := O) (H := H) (H' := H) ⟨fun _ _ => rfl, fun _ _ _ => rfl, fun _ _ => rfl⟩ (hst.mem h m hm) (by simp) (by simp) 0 (fun h he => by cases he) (.inl rfl)
 refine ww_region_any hm (par_late hpw hk hok hh hso (fun p hp hps => by have := List.all_eq_true.1 hN p hp; rw [hps] at this; simpa using this) hpf hpfs hpfm hpfd hokk hof ht htl ops.size _ a _ (by simp) (fun i hi _ => by omega) (Nat.le_trans (List.length_filter_le _ _) (by simp)) (fun i hi => ?_) (.inl ⟨O, H, ?_, fun i _ => ?_⟩))
 ·simp only [Array.getD_eq_getD_getElem?, Array.getElem?_replicate] at hi
  split at hi <;> simp at hi
 ·refine ⟨hst.df, hst.sz, hst.bl.drew, hst.lab, fun n s hs _ => (let ⟨x, hx, hr⟩ := hst.slots n s hs; ⟨x, hx, RepS.keeps (w := w) (w' := w.drew) (O := O) (fun b _ h => ⟨h, rfl⟩) hr⟩), fun i p _ _ hi => ?_, fun h m hm => memD h m (look_dropM hm).1, fun i p h m _ hi => ?_, fun i p h m m' hp hps => ?_⟩
  ·simp only [Array.getD_eq_getD_getElem?, Array.getElem?_replicate] at hi
   split at hi <;> simp at hi
  ·simp only [Array.getD_eq_getD_getElem?, Array.getElem?_replicate] at hi
   split at hi <;> simp at hi
  ·have hF : (Array.replicate ops.size false).getD i false = false := by
    simp only [Array.getD_eq_getD_getElem?, Array.getElem?_replicate]
    split <;> simp
   rw [if_neg (by rw [hF]; simp)]
   obtain ⟨o, ho⟩ : ∃ o, (ops.toList.take k)[i]? = some o := ⟨(ops.toList.take k)[i]'(by rw [hpw.get.1]; exact (List.getElem?_eq_some_iff.1 hp).1), List.getElem?_eq_getElem _⟩
   have hs1 := hpw.get.2 i o p ho hp
   simp only [PStep, hps] at hs1
   exact memD h m hs1.2.2.2.1
 ·simp only [Array.getD_eq_getD_getElem?, Array.getElem?_replicate]
  split <;> simp
theorem PC.doneL {id : Nat} {ps : List PO} {e : Env} {rest : List Oper} (k f : Nat) {pf : PO} {ok of : Oper} (hm : P.follows .mixedOrders = true) (hkl : ps.length = k) (hok : parOkL ops k f = true) (hh : handOk e0 M0 ps = true) (hso : stOk hs ps = true) (hN : ps.all (fun p => !p.ds || decide (p.d < N)) = true)
  (hpf : ps[f]? = some pf) (hpfs : pf.st = none) (hpfm : pf.mo = none) (hpfd : pf.ds = true) (hof : ops[f]? = some of)
  (ht : TrOps P N w0 O0 ops Q e (finM M0 ps) (ok :: rest)) (htl : TrOps P N w0 O0 ops Q (finE (dropE pf.d e0) (ps.eraseIdx f)) (finM M0 (ps.eraseIdx f)) (ok :: of :: rest)) : PC P N w0 O0 id ops Q hs e0 M0 ps e (ok :: rest) := by
 intro pre hops hpw he
 subst he
 subst hkl
 have hlen : pre.length = ps.length := hpw.get.1
 have hk : ps.length ≤ ops.size := by
  have : ops.size = (pre ++ ok :: rest).length := by rw [← hops]; simp
  rw [this, ← hlen]; simp
 have hd : ops.toList.drop (ps.length + 1) = rest := by rw [hops, ← hlen, List.drop_append]; simp
 have hokk : ops[ps.length]? = some ok := by
  rw [← Array.getElem?_toList, hops, ← hlen, List.getElem?_append_right (Nat.le_refl _)]; simp
 refine Tr.parL (k := ps.length) (f := f) (ps := ps) (pf := pf) (ok := ok) (of := of) hm ?_ hk hok hh hso hN hpf hpfs hpfm hpfd hokk hof ?_ ?_
 ·rw [hops, ← hlen, List.take_left]; exact hpw
 ·rw [hops, ← hlen, List.drop_left]; exact ht
 ·rw [hd]; exact htl
end
end Go.Eng
end

section
namespace Go.Eng
section
variable {P : Program} {B : Nat} {o : Oper} {e : Env} {M : Mem} {s : S}
end
end Go.Eng
namespace Go.Eng
section
variable {P : Program} {N : Nat} {w0 : World} {O0 : Nat → Nat} {ops : Array Oper} {Q : Post} {e : Env} {M : Mem} {rest : List Oper} {o : Oper} {s : S} {B : Nat}
theorem OpSem.cutO {t k T h : Nat} {x l : Operand} {rows : List (List D)} {kk : IntKind} {n : Int} (ho : o.op = .slice t x none (some l) none) (hx : opS e x = some (.o h)) (hM : look M h = some (.own k T rows)) (hl : opS e l = some (.d (.v (.int kk n))))
  (ht : esz P t = some k) (h0 : 0 ≤ n) (h1 : n ≤ rows.length) (h2 : 0 < rows.length) : OpSem P B o e M (.o h) (some (h, .own k T (rows.take n.toNat))) := by
 intro O H a w hB hs hms K hK
 have hx' := hs x (by simp [ho, Op.operands]) _ hx
 have hl' := hs l (by simp [ho, Op.operands]) _ hl
 obtain ⟨b, cap, xs, g1, g2, g3, g4, g5, g6, g7, g8, g9⟩ := (hms h _ hM).ownSome h2
 generalize hv : a.eval x = v at hx'
 generalize hu : a.eval l = u at hl'
 cases hl' with
 | d _ _ hl' => cases hl' with
  | v _ => cases hx' with
   | o h h1' =>
    rw [g1] at hv
    have hrun : (execOp a.eval o).run P w = .ok (.value (.slice (some ⟨b, 0, none⟩) n.toNat cap)) w := by
     have := run_slice_h (P := P) w t (some ⟨b, 0, none⟩) rows.length cap (esz_spec ht).1 kk n h0 (by omega)
     simp only [execOp, ho, hv, hu, Option.map_some, Option.map_none, Sem.run_bind, run_sliceAt_slice w t _ _ _ _ (esz_spec ht).1, this, run_sizeElem ht, Result.andThen_ok, Sem.run_pure]
     unfold sliced
     simp [Addr.add_zero']
    unfold Oper.wp
    rw [hrun]
    obtain ⟨H', hH'⟩ : ∃ H' : Nat → Value, H' = fun m => if m = h then (.slice (some ⟨b, 0, none⟩) n.toNat cap : Value) else H m := ⟨_, rfl⟩
    have hh : H' h = .slice (some ⟨b, 0, none⟩) n.toNat cap := by rw [hH']; simp
    have hk : Keep none (some h) O H w O H' w := ⟨fun _ _ => rfl, fun _ _ _ => rfl, fun m hm => by rw [hH']; simp; intro e; subst e; exact (hm rfl).elim⟩
    have hrep := RepS.o (O := O) (H := H') (w := w) h (by rw [hh]; rfl)
    rw [hh] at hrep
    refine hK O H' w _ hk (.refl _ _) hrep (fun h' m he => ?_)
    simp only [Option.some.injEq, Prod.mk.injEq] at he
    obtain ⟨rfl, rfl⟩ := he
    have hlen : (rows.take n.toNat).length = n.toNat := by simp; omega
    refine .inr ⟨b, cap, xs, by rw [hlen]; exact hh, g2, g3, g4, by rw [hlen]; omega, g6, g7, fun r hr => g8 r (List.mem_of_mem_take hr), fun i r j d hi hj => ?_⟩
    have hin : i < n.toNat := by have := (List.getElem?_eq_some_iff.1 hi).1; omega
    rw [List.getElem?_take_of_lt hin] at hi
    exact g9 i r j d hi hj
end
end Go.Eng
end

section
namespace Go.Eng
section
variable {P : Program}
variable {B : Nat} {o : Oper} {e : Env} {M : Mem}
end
end Go.Eng
end

section
namespace Go.Eng
section
variable {P : Program} {B : Nat} {o : Oper} {e : Env} {M : Mem}
end
section
variable {P : Program} {N : Nat} {w0 : World} {O0 : Nat → Nat} {ops : Array Oper} {Q : Post} {e : Env} {M : Mem} {rest : List Oper} {o : Oper} {c : Code}
theorem St.memSet {h : Nat} {m : Mo} {O : Nat → Nat} {H : Nat → Value} {a : Act} {w : World} (hst : St N w0 O0 e M O H a w) (hm : MHold O H w0.heap.size w h m) : St N w0 O0 e ((h, m) :: M) O H a w :=
 ⟨hst.df, hst.sz, hst.bl, hst.lab, hst.slots, fun n m' hm' => by
  rcases look_cons hm' with ⟨rfl, rfl⟩ | ⟨_, hm'⟩
  ·exact hm
  ·exact hst.mem n m' hm'⟩
end
end Go.Eng
end

section
namespace Go.Eng
inductive DropRs (ds : List Nat) : Env → Env → Prop
 | nil : DropRs ds [] []
 | hit {n : Nat} {s : S} {e e2 : Env} (h : (ds.any fun d => Nat.beq n d) = true) : DropRs ds e e2 → DropRs ds ((n, s) :: e) e2
 | miss {n : Nat} {s : S} {e e2 : Env} (h : (ds.any fun d => Nat.beq n d) = false) : DropRs ds e e2 → DropRs ds ((n, s) :: e) ((n, s) :: e2)
theorem DropRs.look {ds : List Nat} {e e2 : Env} (hd : DropRs ds e e2) : ∀ {n : Nat} {s : S}, look e2 n = some s → n ∉ ds ∧ look e n = some s := by
 induction hd with
 | nil => intro n s h; simp [Eng.look] at h
 | @hit m t e e2 h _ ih =>
  intro n s hl
  obtain ⟨h1, h2⟩ := ih hl
  refine ⟨h1, ?_⟩
  simp only [Eng.look]
  have : Nat.beq m n = false := by
   cases hb : Nat.beq m n with
   | false => rfl
   | true =>
    rw [Nat.eq_of_beq_eq_true hb] at h
    obtain ⟨d, hd, he⟩ := List.any_eq_true.1 h
    rw [Nat.eq_of_beq_eq_true he] at h1
    exact absurd hd h1
  rw [this]; exact h2
 | @miss m t e e2 h _ ih =>
  intro n s hl
  rcases look_cons hl with ⟨rfl, rfl⟩ | ⟨hne, hl⟩
  ·refine ⟨fun hm => ?_, look_cons_same _ _ _⟩
   have : (ds.any fun d => Nat.beq n d) = true := List.any_eq_true.2 ⟨n, hm, by simp⟩
   rw [h] at this; cases this
  ·obtain ⟨h1, h2⟩ := ih hl
   refine ⟨h1, ?_⟩
   simp only [Eng.look]
   have : Nat.beq m n = false := by cases hb : Nat.beq m n with
    | false => rfl
    | true => exact (hne (Nat.eq_of_beq_eq_true hb).symm).elim
   rw [this]; exact h2
section
variable {P : Program} {N : Nat} {w0 : World} {O0 : Nat → Nat} {ops : Array Oper} {Q : Post} {e0 e : Env} {M0 M : Mem} {hs : List Nat} {o : Oper}
def nrm (R : Act → World → Prop) : Post := fun x a w => x = .normal ∧ R a w
theorem Oper.wp_nrm {K R : Act → World → Prop} {a : Act} {w : World} (h : o.wp P a w K (nrm R)) (Q : Post) : o.wp P a w K Q := by
 unfold Oper.wp at *
 generalize (execOp a.eval o).run P w = r at *
 cases r with
 | ok n w' =>
  cases n <;> simp only [Oper.upon] at h ⊢ <;> first
   | exact h
   | exact Calls.mono h (fun e w'' he => by
     cases e with
     | returned v => exact he
     | panicked c => exact nomatch he.1
     | outgrown => obtain ⟨_, _, h, _⟩ := he; exact nomatch h)
 | halt x w' => cases x <;> simp only [Oper.upon] at h ⊢ <;> first | exact nomatch h.1 | exact h
theorem wp1 {R : Act → World → Prop} {a : Act} {w : World} {i : Nat} (ho : ops[i]? = some o) (h : wpList P ops (nrm R) [o] a w) : wpOp P ops Q i R a w := by
 unfold wpOp
 simp only [ho]
 unfold wpList at h
 split
 ·rename_i hw
  rw [if_pos hw] at h
  rcases h with h | ⟨_, _, _, h, _⟩
  ·exact .inl (Oper.wp_mono (fun a w h => h.2) (Oper.wp_nrm h Q))
  ·exact nomatch h
 ·rename_i hw
  rw [if_neg hw] at h
  exact h.2
def wpSet (P : Program) (ops : Array Oper) (Q : Post) (tail : List Oper) : Nat → List Nat → Act → World → Prop
 | 0, _, a, w => wpList P ops Q tail a w
 | n + 1, F, a, w => ∀ i, i ∈ F → (∀ j, j ∈ F → prec ops 9 i j = false) → wpOp P ops Q i (wpSet P ops Q tail n (F.erase i)) a w
def TrSet (P : Program) (N : Nat) (w0 : World) (O0 : Nat → Nat) (ops : Array Oper) (Q : Post) (tail : List Oper) (n : Nat) (F : List Nat) (e : Env) (M : Mem) : Prop :=
 ∀ (O : Nat → Nat) (H : Nat → Value) (a : Act) (w : World), St N w0 O0 e M O H a w → wpSet P ops Q tail n F a w
def TrI (P : Program) (N : Nat) (w0 : World) (O0 : Nat → Nat) (ops : Array Oper) (Q : Post) (tail : List Oper) (n : Nat) (F : List Nat) (e : Env) (M : Mem) (i : Nat) : Prop :=
 ∀ (O : Nat → Nat) (H : Nat → Value) (a : Act) (w : World), St N w0 O0 e M O H a w → wpOp P ops Q i (wpSet P ops Q tail n (F.erase i)) a w
def EachI (R : Nat → Prop) : List Nat → Prop
 | [] => True
 | i :: r => R i ∧ EachI R r
theorem EachI.get {R : Nat → Prop} : ∀ {l : List Nat} {i : Nat}, EachI R l → i ∈ l → R i
 | _ :: _, _, h, hi => by
  rcases List.mem_cons.1 hi with rfl | hi
  ·exact h.1
  ·exact EachI.get h.2 hi
variable {tail : List Oper} {n : Nat} {F : List Nat}
theorem TrSet.zero (h : TrOps P N w0 O0 ops Q e M tail) : TrSet P N w0 O0 ops Q tail 0 F e M := h
theorem TrSet.succ (h : EachI (fun i => (F.any fun j => prec ops 9 i j) = true ∨ TrI P N w0 O0 ops Q tail n F e M i) F) : TrSet P N w0 O0 ops Q tail (n + 1) F e M := fun O H a w hst i hi hp => by
 rcases h.get hi with hb | hb
 ·obtain ⟨j, hj, he⟩ := List.any_eq_true.1 hb
  rw [hp j hj] at he; cases he
 ·exact hb O H a w hst
theorem TrSet.start (h : TrSet P N w0 O0 ops Q tail n F e M) : TrOps P N w0 O0 ops (nrm (wpSet P ops Q tail n F)) e M [] := fun O H a w hst => ⟨rfl, h O H a w hst⟩
theorem TrI.sem {i d : Nat} {s : S} {F' : List Nat} (ho : ops[i]? = some o) (hsem : OpSem P w0.heap.size o e M s none) (hg : o.guard = none) (hd : o.dst = some d) (hdN : d < N) (hF : F.erase i = F')
  (h : TrSet P N w0 O0 ops Q tail n F' ((d, s) :: e) M) : TrI P N w0 O0 ops Q tail n F e M i := fun O H a w hst => by
 subst hF
 exact wp1 ho (TrOps.sem (Q := nrm (wpSet P ops Q tail n (F.erase i))) hsem hg hd hdN (TrSet.start h) O H a w hst)
def parOkS (ops : Array Oper) (k : Nat) (F : List Nat) : Bool :=
 let ds : List (Option Nat) := ops.toList.map (·.dst)
 (F.all fun f => decide (f < k)) && (List.range ops.size).all fun i => match ops[i]? with
  | none => false
  | some o =>
   (o.after.all fun e => !(Region.binds .any e) || decide (e.on < i)) &&
   (if i < k then
    (List.range k).all fun j => match ds.getD j none with
     | some d => (i == j || o.dst != some d) && (!((tmpsOf ops o).contains d) || (decide (j < i) && prec ops 9 i j) || (decide (i < j) && prec ops 9 j i))
     | none => true
   else (List.range i).all fun j => (i == k && F.contains j) || prec ops 9 i j)
theorem parOkS_hd {ops : Array Oper} {k : Nat} {F : List Nat} (hok : parOkS ops k F = true) : ParHd ops k := by
 intro i o hik ho
 unfold parOkS at hok
 simp only [Bool.and_eq_true, List.all_eq_true, List.mem_range] at hok
 have := hok.2 i (Array.getElem?_eq_some_iff.1 ho).1
 simp only [ho, hik, if_true, Bool.and_eq_true] at this
 exact this.2
def subsets : List Nat → List (List Nat)
 | [] => [[]]
 | x :: l => subsets l ++ (subsets l).map (x :: ·)
theorem filter_sub {p : Nat → Bool} : ∀ {l : List Nat}, l.filter p ∈ subsets l
 | [] => by simp [subsets]
 | x :: l => by
  have ih := filter_sub (p := p) (l := l)
  simp only [subsets, List.mem_append, List.mem_map, List.filter_cons]
  split
  ·exact .inr ⟨_, ih, rfl⟩
  ·exact .inl ih
def slotOf (ps : List PO) (i : Nat) : Nat := ((ps[i]?).map PO.d).getD 0
def pureOk (ps : List PO) (F : List Nat) : Bool := F.all fun f => match ps[f]? with | some p => p.st.isNone && p.mo.isNone && p.ds | none => false
theorem par_set {k : Nat} {F : List Nat} {ps : List PO} {ok : Oper} {M1 : Mem} (hpw : PW P w0.heap.size ops hs M0 (ops.toList.take k) ps e0) (hk : k ≤ ops.size) (hok : parOkS ops k F = true) (hh : handOk e0 M0 ps = true) (hso : stOk hs ps = true) (hN : ∀ p, p ∈ ps → p.ds = true → p.d < N)
  (hpu : pureOk ps F = true) (hnd : F.Nodup) (hokk : ops[k]? = some ok)
  (htl : ∀ F', F' ∈ subsets F → ∃ e2, DropRs (F'.map (slotOf ps)) (finE e0 ps) e2 ∧ TrOps P N w0 O0 ops (nrm (wpSet P ops Q (ops.toList.drop (k + 1)) F'.length F')) e2 (finM M0 ps) [ok]) :
  ∀ (fuel : Nat) (L : Array Bool) (a : Act) (w : World), L.size = ops.size → (∀ i, i < ops.size → L.getD i false = false → fuel ≠ 0) → ((List.range ops.size).filter fun i => !L.getD i false).length ≤ fuel →
   (∀ i, L.getD i false = true → ∀ o, ops[i]? = some o → ∀ e, e ∈ o.after → Region.binds .any e = true → L.getD e.on false = true) →
   ((∃ O H, PSt N w0 O0 e0 hs M0 ps L O H a w ∧ ∀ i, k ≤ i → L.getD i false = false) ∨ (∃ i0, k + 1 ≤ i0 ∧ (∀ i, i < ops.size → (L.getD i false = true ↔ i < i0)) ∧ i0 ≤ ops.size ∧ wpList P ops Q (ops.toList.drop i0) a w) ∨ (∃ F' : List Nat, F'.Nodup ∧ (∀ f, f ∈ F' → f < k) ∧ (∀ i, i < ops.size → (L.getD i false = true ↔ (i < k + 1 ∧ i ∉ F'))) ∧ wpSet P ops Q (ops.toList.drop (k + 1)) F'.length F' a w)) →
   wpAny P .any ops Q fuel L a w := by
 have hops : ∀ i, i < ops.size → ∃ o, ops[i]? = some o := fun i hi => ⟨ops[i], Array.getElem?_eq_getElem hi⟩
 have hfk : ∀ f, f ∈ F → f < k := by unfold parOkS at hok; simp only [Bool.and_eq_true, List.all_eq_true, decide_eq_true_eq] at hok; exact hok.1
 have hkn : k < ops.size := (Array.getElem?_eq_some_iff.1 hokk).1
 have hlenp : ps.length = k := by have := hpw.get.1; rw [← this]; simp; omega
 have hpure : ∀ f p, f ∈ F → ps[f]? = some p → p.st = none ∧ p.mo = none ∧ p.ds = true := by
  intro f p hf hp
  have := List.all_eq_true.1 hpu f hf
  simp only [hp, Bool.and_eq_true, Option.isNone_iff_eq_none] at this
  exact ⟨this.1.1, this.1.2, this.2⟩
 have hchk : ∀ i o, ops[i]? = some o → (∀ e, e ∈ o.after → Region.binds .any e = true → e.on < i) ∧ (k ≤ i → ∀ j, j < i → ¬ (i = k ∧ j ∈ F) → prec ops 9 i j = true) := by
  intro i o ho
  have hi : i < ops.size := (Array.getElem?_eq_some_iff.1 ho).1
  unfold parOkS at hok
  simp only [Bool.and_eq_true, List.all_eq_true, List.mem_range] at hok
  have := hok.2 i hi
  simp only [ho, Bool.and_eq_true] at this
  obtain ⟨h1, h2⟩ := this
  refine ⟨fun e he hb => ?_, fun hki j hj hne => ?_⟩
  ·have := Array.all_eq_true'.1 h1 e he
   simp only [hb, Bool.not_true, Bool.false_or, decide_eq_true_eq] at this
   exact this
  ·rw [if_neg (by omega)] at h2
   have h3 := List.all_eq_true.1 h2 j (List.mem_range.2 hj)
   simp only [Bool.or_eq_true, Bool.and_eq_true, beq_iff_eq, List.contains_iff_mem] at h3
   exact h3.resolve_left hne
 have turnS : ∀ (L : Array Bool) (a : Act) (w : World) (F' : List Nat), L.size = ops.size → F' ∈ subsets F → (∀ f, f ∈ F' → f ∈ F) → (∀ i, i < k → i ∉ F' → L.getD i false = true) → (∃ O H, PSt N w0 O0 e0 hs M0 ps L O H a w) →
   wpList P ops (nrm (wpSet P ops Q (ops.toList.drop (k + 1)) F'.length F')) [ok] a w := by
  rintro L a w F' hL hF' hsub h1 ⟨O, H, hst⟩
  obtain ⟨e2, hd, ht⟩ := htl F' hF'
  refine ht O H a w ⟨hst.df, hst.sz, hst.bl, hst.lab, fun n s hs => ?_, fun h m hm => ?_⟩
  ·obtain ⟨hn, hs⟩ := hd.look hs
   rcases look_finE hs with ⟨i, p, hp, hps, rfl, rfl⟩ | ⟨h1', h2'⟩
   ·have hik : i < k := by rw [← hlenp]; exact (List.getElem?_eq_some_iff.1 hp).1
    refine hst.new i p hp hps (h1 i hik fun hi => hn (List.mem_map.2 ⟨i, hi, ?_⟩))
    simp [slotOf, hp]
   ·exact hst.old n s h2' (fun j p hj hs he => absurd he (h1' p (List.mem_of_getElem? hj) hs))
  ·rcases look_finM hm with ⟨i, p, hp, hps, hmo⟩ | ⟨i, p, m0, hp, hps⟩ | ⟨hns, hm⟩
   ·have hik : i < k := by rw [← hlenp]; exact (List.getElem?_eq_some_iff.1 hp).1
    refine hst.mnew i p h m hp (h1 i hik fun hi => ?_) hps hmo
    rw [(hpure i p (hsub i hi) hp).2.1] at hmo; cases hmo
   ·have hik : i < k := by rw [← hlenp]; exact (List.getElem?_eq_some_iff.1 hp).1
    have := hst.sto i p h m0 m hp hps
    rwa [if_pos (h1 i hik fun hi => by rw [(hpure i p (hsub i hi) hp).1] at hps; cases hps)] at this
   ·refine hst.mold h m (look_dropM_of (fun hin => ?_) hm)
    unfold stOk at hso
    simp only [Bool.and_eq_true] at hso
    obtain ⟨p, hp, he⟩ := List.any_eq_true.1 (List.all_eq_true.1 hso.2 h hin)
    cases hps : p.st with
    | none => rw [hps] at he; cases he
    | some x =>
     obtain ⟨h', m0, m1⟩ := x
     rw [hps] at he
     exact hns p hp h' m0 m1 hps (Nat.eq_of_beq_eq_true he)
 have hrd : ∀ (L : Array Bool) (i : Nat), L.size = ops.size → i ∈ Region.ready .any ops L → i < ops.size ∧ L.getD i false = false ∧ ∀ o, ops[i]? = some o → ∀ e, e ∈ o.after → Region.binds .any e = true → L.getD e.on false = true := by
  intro L i hL hi
  unfold Region.ready at hi
  rw [List.mem_filter] at hi
  obtain ⟨h1, h2⟩ := hi
  rw [List.mem_range] at h1
  simp only [Bool.and_eq_true, Bool.not_eq_true'] at h2
  obtain ⟨h2, h3⟩ := h2
  refine ⟨h1, ?_, fun o ho e he hb => ?_⟩
  ·simpa [Array.getD_eq_getD_getElem?, Array.getElem?_eq_getElem (by omega : i < L.size)] using h2
  ·simp only [ho, Option.map_some, Option.getD_some] at h3
   have := Array.all_eq_true'.1 h3 e he
   simpa [hb] using this
 have hnone : ∀ (L : Array Bool), L.size = ops.size → Region.ready .any ops L = [] → ∀ i, i < ops.size → L.getD i false = true := by
  intro L hL hr i
  induction i using Nat.strongRecOn with
  | _ i ih =>
   intro hi
   cases hl : L.getD i false with
   | true => rfl
   | false =>
    exfalso
    obtain ⟨o, ho⟩ := hops i hi
    have : i ∈ Region.ready .any ops L := by
     unfold Region.ready
     rw [List.mem_filter]
     refine ⟨List.mem_range.2 hi, ?_⟩
     simp only [Bool.and_eq_true, Bool.not_eq_true']
     refine ⟨by simpa [Array.getD_eq_getD_getElem?, Array.getElem?_eq_getElem (by omega : i < L.size)] using hl, ?_⟩
     simp only [ho, Option.map_some, Option.getD_some, Array.all_eq_true', Bool.or_eq_true, Bool.not_eq_true']
     intro e he
     by_cases hb : Region.binds .any e = true
     ·exact .inr (ih e.on ((hchk i o ho).1 e he hb) (by have := (hchk i o ho).1 e he hb; omega))
     ·exact .inl (by simpa using hb)
    rw [hr] at this; cases this
 have hcl' : ∀ (L : Array Bool) (i : Nat), L.size = ops.size → i < ops.size → (∀ i, L.getD i false = true → ∀ o, ops[i]? = some o → ∀ e, e ∈ o.after → Region.binds .any e = true → L.getD e.on false = true) → (∀ o, ops[i]? = some o → ∀ e, e ∈ o.after → Region.binds .any e = true → L.getD e.on false = true) →
   ∀ j, (L.setIfInBounds i true).getD j false = true → ∀ o, ops[j]? = some o → ∀ e, e ∈ o.after → Region.binds .any e = true → (L.setIfInBounds i true).getD e.on false = true := by
  intro L i hL hi hcl hr j hj o ho e he hb
  rw [getD_set (by omega)] at hj ⊢
  split
  ·rfl
  ·by_cases hji : j = i
   ·subst hji; exact hr o ho e he hb
   ·rw [if_neg hji] at hj; exact hcl j hj o ho e he hb
 have hcount : ∀ (L : Array Bool) (i n : Nat), L.size = ops.size → i < ops.size → L.getD i false = false → ((List.range ops.size).filter fun i => !L.getD i false).length ≤ n + 1 → ((List.range ops.size).filter fun j => !(L.setIfInBounds i true).getD j false).length ≤ n := by
  intro L i n hL hi hl hc
  have : ((List.range ops.size).filter fun j => !(L.setIfInBounds i true).getD j false) = ((List.range ops.size).filter fun j => !L.getD j false).filter (fun j => j != i) := by
   rw [List.filter_filter]
   apply List.filter_congr
   intro j _
   rw [getD_set (by omega)]
   by_cases h : j = i <;> simp [h]
  rw [this]
  have hlt : (((List.range ops.size).filter fun j => !L.getD j false).filter (fun j => j != i)).length < ((List.range ops.size).filter fun j => !L.getD j false).length := by
   rw [List.length_filter_lt_length_iff_exists]
   exact ⟨i, List.mem_filter.2 ⟨List.mem_range.2 hi, by rw [hl]; rfl⟩, by simp⟩
  omega
 have fin : ∀ (L : Array Bool) (a : Act) (w : World), (∀ i, i < ops.size → L.getD i false = true) → ((∃ O H, PSt N w0 O0 e0 hs M0 ps L O H a w ∧ ∀ i, k ≤ i → L.getD i false = false) ∨ (∃ i0, k + 1 ≤ i0 ∧ (∀ i, i < ops.size → (L.getD i false = true ↔ i < i0)) ∧ i0 ≤ ops.size ∧ wpList P ops Q (ops.toList.drop i0) a w) ∨ (∃ F' : List Nat, F'.Nodup ∧ (∀ f, f ∈ F' → f < k) ∧ (∀ i, i < ops.size → (L.getD i false = true ↔ (i < k + 1 ∧ i ∉ F'))) ∧ wpSet P ops Q (ops.toList.drop (k + 1)) F'.length F' a w)) → Q .normal a w := by
  intro L a w hall hJ
  rcases hJ with ⟨O, H, hst, htail⟩ | ⟨i0, h1, h2, h3, h4⟩ | ⟨F', _, h2, h3, h4⟩
  ·have := htail k (Nat.le_refl _); rw [hall k hkn] at this; cases this
  ·have : i0 = ops.size := by
    rcases Nat.lt_or_ge i0 ops.size with h | h
    ·have := (h2 i0 h).1 (hall i0 h); omega
    ·omega
   rw [List.drop_eq_nil_of_le (by simp; omega)] at h4
   exact h4
  ·have hnil : F' = [] := by
    cases F' with
    | nil => rfl
    | cons f r => exact absurd (List.mem_cons_self) ((h3 f (by have := h2 f List.mem_cons_self; omega)).1 (hall f (by have := h2 f List.mem_cons_self; omega))).2
   subst hnil
   have : ops.size = k + 1 := by
    rcases Nat.lt_or_ge (k + 1) ops.size with h | h
    ·have := ((h3 (k + 1) h).1 (hall (k + 1) h)).1; omega
    ·omega
   have h5 : wpList P ops Q (ops.toList.drop (k + 1)) a w := h4
   rw [List.drop_eq_nil_of_le (by simp; omega)] at h5
   exact h5
 intro fuel
 induction fuel with
 | zero =>
  intro L a w hL hf hc hcl hJ
  have hall : ∀ i, i < ops.size → L.getD i false = true := fun i hi => by
   cases hl : L.getD i false with
   | true => rfl
   | false => exact absurd rfl (hf i hi hl)
  refine ⟨?_, fin L a w hall hJ⟩
  rw [List.eq_nil_iff_forall_not_mem]
  intro i hi
  obtain ⟨h1, h2, _⟩ := hrd L i hL hi
  rw [hall i h1] at h2; cases h2
 | succ fuel ih =>
  intro L a w hL hf hc hcl hJ
  have next : ∀ (i : Nat) (a' : Act) (w' : World), i < ops.size → L.getD i false = false → (∀ o, ops[i]? = some o → ∀ e, e ∈ o.after → Region.binds .any e = true → L.getD e.on false = true) →
    ((∃ O H, PSt N w0 O0 e0 hs M0 ps (L.setIfInBounds i true) O H a' w' ∧ ∀ j, k ≤ j → (L.setIfInBounds i true).getD j false = false) ∨ (∃ i0, k + 1 ≤ i0 ∧ (∀ j, j < ops.size → ((L.setIfInBounds i true).getD j false = true ↔ j < i0)) ∧ i0 ≤ ops.size ∧ wpList P ops Q (ops.toList.drop i0) a' w') ∨ (∃ F' : List Nat, F'.Nodup ∧ (∀ f, f ∈ F' → f < k) ∧ (∀ j, j < ops.size → ((L.setIfInBounds i true).getD j false = true ↔ (j < k + 1 ∧ j ∉ F'))) ∧ wpSet P ops Q (ops.toList.drop (k + 1)) F'.length F' a' w')) →
    wpAny P .any ops Q fuel (L.setIfInBounds i true) a' w' := by
   intro i a' w' hi hl hr hJ'
   have hcc := hcount L i fuel hL hi hl hc
   refine ih _ a' w' (by simpa using hL) (fun j hj hlj h0 => ?_) hcc (hcl' L i hL hi hcl hr) hJ'
   subst h0
   have : ((List.range ops.size).filter fun j => !(L.setIfInBounds i true).getD j false) = [] := List.eq_nil_of_length_eq_zero (by omega)
   have hm : j ∈ ((List.range ops.size).filter fun j => !(L.setIfInBounds i true).getD j false) := List.mem_filter.2 ⟨List.mem_range.2 hj, by rw [hlj]; rfl⟩
   rw [this] at hm; cases hm
  have tail : ∀ (i0 : Nat), k + 1 ≤ i0 → (∀ i, i < ops.size → (L.getD i false = true ↔ i < i0)) → i0 ≤ ops.size → wpList P ops Q (ops.toList.drop i0) a w → ∀ i, i ∈ Region.ready .any ops L → wpOp P ops Q i (wpAny P .any ops Q fuel (L.setIfInBounds i true)) a w := by
   intro i0 h1 h2 h3 h4 i hi
   obtain ⟨hi1, hi2, hi3⟩ := hrd L i hL hi
   obtain ⟨o, ho⟩ := hops i hi1
   have hge : i0 ≤ i := by
    rcases Nat.lt_or_ge i i0 with h | h
    ·have := (h2 i hi1).2 h; rw [hi2] at this; cases this
    ·exact h
   have hall : ∀ j, j < i → L.getD j false = true := fun j hj => prec_closed hcl 9 i j ((hchk i o ho).2 (by omega) j hj (fun h => by omega)) hi3
   have hii : i = i0 := by
    rcases Nat.lt_or_ge i0 i with h | h
    ·have := (h2 i0 (by omega)).1 (hall i0 h); omega
    ·omega
   subst hii
   have hd : ops.toList.drop i = o :: ops.toList.drop (i + 1) := by
    rw [List.drop_eq_getElem_cons (by simpa using hi1)]
    congr 1
    have := (Array.getElem?_eq_some_iff.1 ho).2
    simpa using this
   rw [hd] at h4
   have hK : ∀ a' w', wpList P ops Q (ops.toList.drop (i + 1)) a' w' → wpAny P .any ops Q fuel (L.setIfInBounds i true) a' w' := fun a' w' hw' =>
    next i a' w' hi1 hi2 hi3 (.inr (.inl ⟨i + 1, by omega, fun j hj => by
     rw [getD_set (by omega)]
     by_cases hji : j = i
     ·simp [hji]
     ·rw [if_neg hji, h2 j hj]; omega, by omega, hw'⟩))
   unfold wpOp
   simp only [ho]
   simp only [wpList] at h4
   split
   ·rename_i hw
    rw [if_pos hw] at h4
    exact h4.imp (Oper.wp_mono hK) id
   ·rename_i hw
    rw [if_neg hw] at h4
    exact hK _ _ h4
  have opMono : ∀ (i : Nat) (R : Act → World → Prop), (∀ a' w', R a' w' → wpAny P .any ops Q fuel (L.setIfInBounds i true) a' w') → wpOp P ops Q i R a w → wpOp P ops Q i (wpAny P .any ops Q fuel (L.setIfInBounds i true)) a w := by
   intro i R hR h4
   unfold wpOp at h4 ⊢
   split
   ·rename_i hn
    simp only [hn] at h4
    exact hR _ _ h4
   ·rename_i o ho
    simp only [ho] at h4
    split
    ·rename_i hw
     rw [if_pos hw] at h4
     exact h4.imp (Oper.wp_mono hR) id
    ·rename_i hw
     rw [if_neg hw] at h4
     exact hR _ _ h4
  refine ⟨fun hr => fin L a w (hnone L hL hr) hJ, fun i hi => ?_⟩
  obtain ⟨hi1, hi2, hi3⟩ := hrd L i hL hi
  obtain ⟨o, ho⟩ := hops i hi1
  rcases hJ with ⟨O, H, hst, htail⟩ | ⟨i0, h1, h2, h3, h4⟩ | ⟨F', hnd', h2, h3, h4⟩
  ·rcases Nat.lt_or_ge i k with hik | hik
   ·refine PSt.step hpw hk (parOkS_hd hok) hh hso hL hcl hst hik ho (hi3 o ho) hi2 hN _ fun O' H' a' w' hst' => ?_
    refine next i a' w' hi1 hi2 hi3 (.inl ⟨O', H', hst', fun j hj => ?_⟩)
    rw [getD_set (by omega), if_neg (by omega)]
    exact htail j hj
   ·have hik' : i = k := by
     rcases Nat.lt_or_ge k i with h | h
     ·have := prec_closed hcl 9 i k ((hchk i o ho).2 hik k h (fun hh => by omega)) hi3
      rw [htail k (Nat.le_refl _)] at this; cases this
     ·omega
    subst hik'
    have hall : ∀ j, j < i → j ∉ F.filter (fun j => !L.getD j false) → L.getD j false = true := fun j hj hjf => by
     by_cases hjF : j ∈ F
     ·cases hlj : L.getD j false with
      | true => rfl
      | false => exact absurd (List.mem_filter.2 ⟨hjF, by simp [hlj]⟩) hjf
     ·exact prec_closed hcl 9 i j ((hchk i o ho).2 hik j hj (fun h => hjF h.2)) hi3
    have h4 := turnS L a w (F.filter fun j => !L.getD j false) hL filter_sub (fun f hf => (List.mem_filter.1 hf).1) hall ⟨O, H, hst⟩
    refine opMono i _ (fun a' w' hw' => ?_) (wp1 hokk h4)
    refine next i a' w' hi1 hi2 hi3 (.inr (.inr ⟨_, hnd.filter _, fun f hf => hfk f (List.mem_filter.1 hf).1, fun j hj => ?_, hw'⟩))
    rw [getD_set (by omega)]
    by_cases hji : j = i
    ·subst hji
     simp only [if_true, true_iff]
     exact ⟨by omega, fun hm => by have := hfk j (List.mem_filter.1 hm).1; omega⟩
    ·rw [if_neg hji]
     constructor
     ·intro hlj
      rcases Nat.lt_or_ge j i with h | h
      ·exact ⟨by omega, fun hm => by have := (List.mem_filter.1 hm).2; rw [hlj] at this; cases this⟩
      ·rw [htail j h] at hlj; cases hlj
     ·rintro ⟨h5, h6⟩
      exact hall j (by omega) h6
  ·exact tail i0 h1 h2 h3 h4 i hi
  ·by_cases hif : i ∈ F'
   ·obtain ⟨m, hm⟩ : ∃ m, F'.length = m + 1 := by
     cases F' with
     | nil => cases hif
     | cons _ r => exact ⟨r.length, rfl⟩
    rw [hm] at h4
    have h5 := h4 i hif (fun j hj => by
     cases hp : prec ops 9 i j with
     | false => rfl
     | true => exact absurd hj ((h3 j (by have := h2 j hj; omega)).1 (prec_closed hcl 9 i j hp hi3)).2)
    refine opMono i _ (fun a' w' hw' => ?_) h5
    refine next i a' w' hi1 hi2 hi3 (.inr (.inr ⟨F'.erase i, hnd'.erase i, fun f hf => h2 f (List.mem_of_mem_erase hf), fun j hj => ?_, ?_⟩))
    ·rw [getD_set (by omega), hnd'.mem_erase_iff]
     by_cases hji : j = i
     ·subst hji
      have := h2 j hif
      simp; omega
     ·rw [if_neg hji, h3 j hj]; simp [hji]
    ·rw [List.length_erase_of_mem hif, hm]; exact hw'
   ·have hge : k + 1 ≤ i := by
     rcases Nat.lt_or_ge i (k + 1) with h | h
     ·have := (h3 i hi1).2 ⟨h, hif⟩; rw [hi2] at this; cases this
     ·exact h
    have hnil : F' = [] := by
     cases F' with
     | nil => rfl
     | cons f r =>
      have hf := h2 f List.mem_cons_self
      have h6 := prec_closed hcl 9 i f ((hchk i o ho).2 (by omega) f (by omega) (fun h => by omega)) hi3
      exact absurd List.mem_cons_self ((h3 f (by omega)).1 h6).2
    subst hnil
    exact tail (k + 1) (Nat.le_refl _) (fun j hj => by rw [h3 j hj]; simp) hkn h4 i hi
theorem Tr.parS {id k : Nat} {F : List Nat} {ps : List PO} {ok : Oper} (hm : P.follows .mixedOrders = true) (hpw : PW P w0.heap.size ops hs M0 (ops.toList.take k) ps e0) (hk : k ≤ ops.size) (hok : parOkS ops k F = true) (hh : handOk e0 M0 ps = true) (hso : stOk hs ps = true) (hN : ps.all (fun p => !p.ds || decide (p.d < N)) = true)
  (hpu : pureOk ps F = true) (hnd : F.Nodup) (hokk : ops[k]? = some ok)
  (htl : ∀ F', F' ∈ subsets F → ∃ e2, DropRs (F'.map (slotOf ps)) (finE e0 ps) e2 ∧ TrOps P N w0 O0 ops (nrm (wpSet P ops Q (ops.toList.drop (k + 1)) F'.length F')) e2 (finM M0 ps) [ok]) : Tr P N w0 O0 e0 M0 (.region id ops true) Q := by
 intro O H a w hst
 have memD : ∀ h m, look M0 h = some m → MHold O H w0.heap.size w.drew h m := fun h m hm => MHold.mono (w := w) (w' := w.drew) (hb := none) (hh := none) (O := O) (O' := O) (H := H) (H' := H) ⟨fun _ _ => rfl, fun _ _ _ => rfl, fun _ _ => rfl⟩ (hst.mem h m hm) (by simp) (by simp) 0 (fun h he => by cases he) (.inl rfl)
 refine ww_region_any hm (par_set (M1 := M0) hpw hk hok hh hso (fun p hp hps => by have := List.all_eq_true.1 hN p hp; rw [hps] at this; simpa using this) hpu hnd hokk htl ops.size _ a _ (by simp) (fun i hi _ => by omega) (Nat.le_trans (List.length_filter_le _ _) (by simp)) (fun i hi => ?_) (.inl ⟨O, H, ?_, fun i _ => ?_⟩))
 ·simp only [Array.getD_eq_getD_getElem?, Array.getElem?_replicate] at hi
  split at hi <;> simp at hi
 ·refine ⟨hst.df, hst.sz, hst.bl.drew, hst.lab, fun n s hs _ => (let ⟨x, hx, hr⟩ := hst.slots n s hs; ⟨x, hx, RepS.keeps (w := w) (w' := w.drew) (O := O) (fun b _ h => ⟨h, rfl⟩) hr⟩), fun i p _ _ hi => ?_, fun h m hm => memD h m (look_dropM hm).1, fun i p h m _ hi => ?_, fun i p h m m' hp hps => ?_⟩
  ·simp only [Array.getD_eq_getD_getElem?, Array.getElem?_replicate] at hi
   split at hi <;> simp at hi
  ·simp only [Array.getD_eq_getD_getElem?, Array.getElem?_replicate] at hi
   split at hi <;> simp at hi
  ·have hF : (Array.replicate ops.size false).getD i false = false := by
    simp only [Array.getD_eq_getD_getElem?, Array.getElem?_replicate]
    split <;> simp
   rw [if_neg (by rw [hF]; simp)]
   obtain ⟨o, ho⟩ : ∃ o, (ops.toList.take k)[i]? = some o := ⟨(ops.toList.take k)[i]'(by rw [hpw.get.1]; exact (List.getElem?_eq_some_iff.1 hp).1), List.getElem?_eq_getElem _⟩
   have hs1 := hpw.get.2 i o p ho hp
   simp only [PStep, hps] at hs1
   exact memD h m hs1.2.2.2.1
 ·simp only [Array.getD_eq_getD_getElem?, Array.getElem?_replicate]
  split <;> simp
def EachL (R : List Nat → Prop) : List (List Nat) → Prop
 | [] => True
 | i :: r => R i ∧ EachL R r
theorem EachL.get {R : List Nat → Prop} : ∀ {l : List (List Nat)} {i : List Nat}, EachL R l → i ∈ l → R i
 | _ :: _, _, h, hi => by
  rcases List.mem_cons.1 hi with rfl | hi
  ·exact h.1
  ·exact EachL.get h.2 hi
theorem PC.doneS {id : Nat} {ps : List PO} {e : Env} {rest : List Oper} (F : List Nat) {ok : Oper} (ss : List (List Nat)) (hm : P.follows .mixedOrders = true) (hok : parOkS ops ps.length F = true) (hh : handOk e0 M0 ps = true) (hso : stOk hs ps = true) (hN : ps.all (fun p => !p.ds || decide (p.d < N)) = true)
  (hpu : pureOk ps F = true) (hnd : F.Nodup) (hss : subsets F = ss) (hM : finM M0 ps = M0)
  (htl : EachL (fun F' => ∃ D e2, F'.map (slotOf ps) = D ∧ DropRs D e e2 ∧ TrOps P N w0 O0 ops (nrm (wpSet P ops Q rest F'.length F')) e2 M0 [ok]) ss) : PC P N w0 O0 id ops Q hs e0 M0 ps e (ok :: rest) := by
 intro pre hops hpw he
 subst he
 have hlen : pre.length = ps.length := hpw.get.1
 have hk : ps.length ≤ ops.size := by
  have : ops.size = (pre ++ ok :: rest).length := by rw [← hops]; simp
  rw [this, ← hlen]; simp
 have hd : ops.toList.drop (ps.length + 1) = rest := by rw [hops, ← hlen, List.drop_append]; simp
 have hokk : ops[ps.length]? = some ok := by
  rw [← Array.getElem?_toList, hops, ← hlen, List.getElem?_append_right (Nat.le_refl _)]; simp
 refine Tr.parS (k := ps.length) (F := F) (ps := ps) (ok := ok) hm ?_ hk hok hh hso hN hpu hnd hokk fun F' hF' => ?_
 ·rw [hops, ← hlen, List.take_left]; exact hpw
 ·rw [hd, hM]
  rw [hss] at hF'
  obtain ⟨D, e2, rfl, h1, h2⟩ := htl.get hF'
  exact ⟨e2, h1, h2⟩
end
end Go.Eng
end

section
namespace Go.Eng
section
variable {P : Program} {N : Nat} {w0 : World} {O0 : Nat → Nat} {ops : Array Oper} {Q : Post} {e e' : Env} {M M' : Mem} {n : Nat} {L : List Bool}
end
end Go.Eng
end

section
namespace Go.Eng
section
variable {P : Program} {B : Nat} {o : Oper} {e : Env} {M : Mem} {s : S}
theorem OpSem.f {t k n h m : Nat} {x : Operand} (ht : fof P t k = some n) (ho : o.op = .fieldAddr t x k := by exact rfl) (hx : opS e x = some (.r h m) := by exact rfl) : OpSem P B o e M (.r h (m + n)) none := .fieldr ho hx ht
theorem OpSem.l {t : TypeId} {x : Operand} {h k : Nat} {cs : List S} (ht : vsz P t = some (false, 1)) (ho : o.op = .load t x := by exact rfl) (hx : opS e x = some (.r h k) := by exact rfl) (hM : look M h = some (.box cs) := by exact rfl)
  (hd : cs[k]? = some s := by exact rfl) : OpSem P B o e M s none := .loadb1 ho hx hM ht hd
theorem OpSem.b {op : BinOp} {t u : TypeId} {x y : Operand} {k : IntKind} {m n : Int} {z : Value} (hz : binOp op t (.int k m) (.int k n) = pure z) (ho : o.op = .binOp op t x y u := by exact rfl) (hx : opS e x = some (.d (.v (.int k m))) := by exact rfl) (hy : opS e y = some (.d (.v (.int k n))) := by exact rfl) :
  OpSem P B o e M (.d (.v z)) none := .bin ho hx hy hz
theorem OpSem.ad {t u : TypeId} {x y : Operand} {m n : Int} (ho : o.op = .binOp .add t x y u := by exact rfl) (hx : opS e x = some (.d (.v (.int .i64 m))) := by exact rfl) (hy : opS e y = some (.d (.v (.int .i64 n))) := by exact rfl) (h0 : -9223372036854775808 ≤ m + n := by omega) (h1 : m + n ≤ 9223372036854775807 := by omega) :
  OpSem P B o e M (.d (.v (.int .i64 (m + n)))) none := .bin ho hx hy (badd h0 h1)
theorem OpSem.su {t u : TypeId} {x y : Operand} {m n : Int} (ho : o.op = .binOp .sub t x y u := by exact rfl) (hx : opS e x = some (.d (.v (.int .i64 m))) := by exact rfl) (hy : opS e y = some (.d (.v (.int .i64 n))) := by exact rfl) (h0 : -9223372036854775808 ≤ m - n := by omega) (h1 : m - n ≤ 9223372036854775807 := by omega) :
  OpSem P B o e M (.d (.v (.int .i64 (m - n)))) none := .bin ho hx hy (bsub h0 h1)
theorem OpSem.bs {t k len : Nat} {ps : Array (Nat × Operand)} {l : List (Nat × S)} {zs : List Value} {ss : List S} {rows : List (List D)} (hk : esz P t = some k) (hz : zcells P (P.elem t) = some zs) (ho : o.op = .buildSlice t len ps := by exact rfl) (hp : partsS e ps.toList = some l := by exact rfl)
  (h1 : zs.all Value.oneCell' = true := by exact rfl) (hzk : zs.length = k := by exact rfl) (hk0 : 0 < k := by decide) (hlen : len * k ≤ 2 ^ 24 := by decide)
  (hf : fillS (fun i => some (i * k, k)) ((List.replicate len zs).flatten.map fun z => .d (.v z)) l = some ss := by exact rfl) (hr : rowsOf k len ss = some rows := by exact rfl) : OpSem P B o e M (.d (.s k rows)) none := .buildSlice ho hp hk hz h1 hzk hk0 hlen hf hr
end
section
variable {P : Program} {N : Nat} {w0 : World} {O0 : Nat → Nat} {ops : Array Oper} {Q : Post} {e : Env} {M : Mem} {rest : List Oper} {o : Oper} {s : S}
theorem TrOps.x (hsem : OpSem P w0.heap.size o e M s none) {d : Nat} (h : TrOps P N w0 O0 ops Q ((d, s) :: e) M rest) (hg : o.guard = none := by exact rfl) (hd : o.dst = some d := by exact rfl) (hdN : d < N := by decide) : TrOps P N w0 O0 ops Q e M (o :: rest) := TrOps.sem hsem hg hd hdN h
theorem TrOps.m {x : Operand} {d : Nat} (h : TrOps P N w0 O0 ops Q ((d, s) :: e) M rest) (ho : o.op = .move x := by exact rfl) (hx : opS e x = some s := by exact rfl) (hg : o.guard = none := by exact rfl) (hd : o.dst = some d := by exact rfl) (hdN : d < N := by decide) : TrOps P N w0 O0 ops Q e M (o :: rest) := TrOps.sem (.move (.inl ho) hx) hg hd hdN h
theorem TrOps.a {x : Operand} {d : Nat} (h : TrOps P N w0 O0 ops Q ((d, s) :: e) M rest) (ho : o.op = .assign x := by exact rfl) (hx : opS e x = some s := by exact rfl) (hg : o.guard = none := by exact rfl) (hd : o.dst = some d := by exact rfl) (hdN : d < N := by decide) : TrOps P N w0 O0 ops Q e M (o :: rest) := TrOps.sem (.move (.inr ho) hx) hg hd hdN h
theorem TrOps.gf {j d d' : Nat} {c : Bool} {oj : Oper} (hc : c = false) (h : TrOps P N w0 O0 ops Q ((d, .d (.v undef)) :: e) M rest) (hg : o.guard = some (j, true) := by exact rfl) (hj : ops[j]? = some oj := by exact rfl) (hdj : oj.dst = some d' := by exact rfl)
  (hb : look e d' = some (.d (.v (.bool c))) := by exact rfl) (hd : o.dst = some d := by exact rfl) (hdN : d < N := by decide) : TrOps P N w0 O0 ops Q e M (o :: rest) := TrOps.gF hg hj hdj hb hc hd hdN h
theorem TrOps.hf {j d d' : Nat} {c : Bool} {oj : Oper} (hc : c = true) (h : TrOps P N w0 O0 ops Q ((d, .d (.v undef)) :: e) M rest) (hg : o.guard = some (j, false) := by exact rfl) (hj : ops[j]? = some oj := by exact rfl) (hdj : oj.dst = some d' := by exact rfl)
  (hb : look e d' = some (.d (.v (.bool c))) := by exact rfl) (hd : o.dst = some d := by exact rfl) (hdN : d < N := by decide) : TrOps P N w0 O0 ops Q e M (o :: rest) := TrOps.gF hg hj hdj hb hc hd hdN h
theorem TrOps.gt {j d' : Nat} {c : Bool} {oj : Oper} (hc : c = true) (h : TrOps P N w0 O0 ops Q e M ({ o with guard := none } :: rest)) (hg : o.guard = some (j, true) := by exact rfl) (hj : ops[j]? = some oj := by exact rfl) (hdj : oj.dst = some d' := by exact rfl)
  (hb : look e d' = some (.d (.v (.bool c))) := by exact rfl) : TrOps P N w0 O0 ops Q e M (o :: rest) := TrOps.gT hg hj hdj hb hc h
theorem TrOps.ht {j d' : Nat} {c : Bool} {oj : Oper} (hc : c = false) (h : TrOps P N w0 O0 ops Q e M ({ o with guard := none } :: rest)) (hg : o.guard = some (j, false) := by exact rfl) (hj : ops[j]? = some oj := by exact rfl) (hdj : oj.dst = some d' := by exact rfl)
  (hb : look e d' = some (.d (.v (.bool c))) := by exact rfl) : TrOps P N w0 O0 ops Q e M (o :: rest) := TrOps.gT hg hj hdj hb hc h
theorem TrOps.gu {j d d' : Nat} {b : Bool} {oj : Oper} (h : TrOps P N w0 O0 ops Q ((d, .d (.v undef)) :: e) M rest) (hg : o.guard = some (j, b) := by exact rfl) (hj : ops[j]? = some oj := by exact rfl) (hdj : oj.dst = some d' := by exact rfl)
  (hb : look e d' = some (.d (.v undef)) := by exact rfl) (hd : o.dst = some d := by exact rfl) (hdN : d < N := by decide) : TrOps P N w0 O0 ops Q e M (o :: rest) := TrOps.gU hg hj hdj hb hd hdN h
theorem TrOps.sb {t : TypeId} {x y : Operand} {h k : Nat} {cs ss : List S} {g : Bool} (ht : vsz P t = some (g, ss.length)) (hn : TrOps P N w0 O0 ops Q e ((h, .box (cs.take k ++ ss ++ cs.drop (k + ss.length))) :: M) rest) (ho : o.op = .store t x y := by exact rfl) (hg : o.guard = none := by exact rfl) (hd : o.dst = none := by exact rfl)
  (hx : opS e x = some (.r h k) := by exact rfl) (hM : look M h = some (.box cs) := by exact rfl) (hy : opS e y = some s := by exact rfl) (hs : s.cells = some ss := by exact rfl) (hk : k + ss.length ≤ cs.length := by first | decide | simp) : TrOps P N w0 O0 ops Q e M (o :: rest) := TrOps.storeb ho hg hd hx hM hy hs ht hk hn
theorem TrOps.ap {x y : Operand} {t k h T d by_ : Nat} {rows rows2 : List (List D)} {zs : List Value} (hk : esz P t = some k) (hT : P.elem t = T) (hz : zcells P T = some zs) (hby : P.bytesOf T = by_) (hn : TrOps P N w0 O0 ops Q ((d, .o h) :: kill h e) ((h, .own k T (rows ++ rows2)) :: killM h M) rest)
  (ho : o.op = .call { callee := .builtin .append, args := #[x, y], argTypes := #[t, t] } := by exact rfl) (hg : o.guard = none := by exact rfl) (hd : o.dst = some d := by exact rfl) (hdN : d < N := by decide) (hx : opS e x = some (.o h) := by exact rfl) (hM : look M h = some (.own k T rows) := by exact rfl) (hy : opS e y = some (.d (.s k rows2)) := by exact rfl) (hzk : zs.length = k := by exact rfl)
  (hone : ∀ r, r ∈ rows2 → r.all D.one = true := by simp [D.one, Value.oneCell']) (hlen : (rows.length + rows2.length) ≤ maxLen := by simp [maxLen]; omega) (hroom : (rows.length + rows2.length) * by_ ≤ 140737488355328 := by simp; omega) : TrOps P N w0 O0 ops Q e M (o :: rest) := TrOps.append ho hg hd hdN hx hM hy hk hT hz hzk hby hone hlen hroom hn
theorem TrOps.z {id : Nat} {l : List Oper} {c : Code} (h : TrOps P N w0 O0 l.toArray (Exit.then (c.ww P Q) Q) e M l) : TrOps P N w0 O0 ops (Exit.then ((Code.seq (.region id l.toArray false) c).ww P Q) Q) e M [] := TrOps.nil (At.seq (Tr.seq (Tr.region h)))
theorem TrOps.y {id : Nat} {l : List Oper} (h : TrOps P N w0 O0 l.toArray Q e M l) : TrOps P N w0 O0 ops (Exit.then ((Code.region id l.toArray false).ww P Q) Q) e M [] := TrOps.nil (At.seq (Tr.region h))
theorem At.z {id : Nat} {l : List Oper} {c : Code} (h : TrOps P N w0 O0 l.toArray (Exit.then (c.ww P Q) Q) e M l) : At N w0 O0 e M .normal (Exit.then ((Code.seq (.region id l.toArray false) c).ww P Q) Q) := At.seq (Tr.seq (Tr.region h))
theorem At.y {id : Nat} {l : List Oper} (h : TrOps P N w0 O0 l.toArray Q e M l) : At N w0 O0 e M .normal (Exit.then ((Code.region id l.toArray false).ww P Q) Q) := At.seq (Tr.region h)
theorem TrOps.sq {c : Code} (h : Tr P N w0 O0 e M c Q) : TrOps P N w0 O0 ops (Exit.then (c.ww P Q) Q) e M [] := TrOps.nil (At.seq h)
variable {id : Nat} {hs : List Nat} {e0 : Env} {M0 : Mem} {ps : List PO}
theorem PC.x (hsem : OpSem P w0.heap.size o e (dropM hs M0) s none) {d : Nat} (h : PC P N w0 O0 id ops Q hs e0 M0 (ps ++ [⟨d, s, none, none, true⟩]) ((d, s) :: e) rest) (hg : o.guard = none := by exact rfl) (hd : o.dst = some d := by exact rfl) : PC P N w0 O0 id ops Q hs e0 M0 ps e (o :: rest) := PC.sem hsem hg hd h
theorem PC.m {x : Operand} {d : Nat} (h : PC P N w0 O0 id ops Q hs e0 M0 (ps ++ [⟨d, s, none, none, true⟩]) ((d, s) :: e) rest) (ho : o.op = .move x := by exact rfl) (hx : opS e x = some s := by exact rfl) (hg : o.guard = none := by exact rfl) (hd : o.dst = some d := by exact rfl) : PC P N w0 O0 id ops Q hs e0 M0 ps e (o :: rest) := PC.sem (.move (.inl ho) hx) hg hd h
theorem PC.gf {j d d' : Nat} {c : Bool} {oj : Oper} (hc : c = false) (h : PC P N w0 O0 id ops Q hs e0 M0 (ps ++ [⟨d, .d (.v undef), none, none, true⟩]) ((d, .d (.v undef)) :: e) rest) (hg : o.guard = some (j, true) := by exact rfl) (hj : ops[j]? = some oj := by exact rfl) (hdj : oj.dst = some d' := by exact rfl)
  (hb : look e d' = some (.d (.v (.bool c))) := by exact rfl) (hd : o.dst = some d := by exact rfl) : PC P N w0 O0 id ops Q hs e0 M0 ps e (o :: rest) := PC.gF hg hj hdj hb hc hd h
theorem PC.hf {j d d' : Nat} {c : Bool} {oj : Oper} (hc : c = true) (h : PC P N w0 O0 id ops Q hs e0 M0 (ps ++ [⟨d, .d (.v undef), none, none, true⟩]) ((d, .d (.v undef)) :: e) rest) (hg : o.guard = some (j, false) := by exact rfl) (hj : ops[j]? = some oj := by exact rfl) (hdj : oj.dst = some d' := by exact rfl)
  (hb : look e d' = some (.d (.v (.bool c))) := by exact rfl) (hd : o.dst = some d := by exact rfl) : PC P N w0 O0 id ops Q hs e0 M0 ps e (o :: rest) := PC.gF hg hj hdj hb hc hd h
theorem PC.gt {j d d' : Nat} {c : Bool} {oj : Oper} (hsem : OpSem P w0.heap.size o e (dropM hs M0) s none) (hc : c = true) (h : PC P N w0 O0 id ops Q hs e0 M0 (ps ++ [⟨d, s, none, none, true⟩]) ((d, s) :: e) rest) (hg : o.guard = some (j, true) := by exact rfl) (hj : ops[j]? = some oj := by exact rfl) (hdj : oj.dst = some d' := by exact rfl)
  (hb : look e d' = some (.d (.v (.bool c))) := by exact rfl) (hd : o.dst = some d := by exact rfl) : PC P N w0 O0 id ops Q hs e0 M0 ps e (o :: rest) := PC.gT hsem hg hj hdj hb hc hd h
theorem PC.ht {j d d' : Nat} {c : Bool} {oj : Oper} (hsem : OpSem P w0.heap.size o e (dropM hs M0) s none) (hc : c = false) (h : PC P N w0 O0 id ops Q hs e0 M0 (ps ++ [⟨d, s, none, none, true⟩]) ((d, s) :: e) rest) (hg : o.guard = some (j, false) := by exact rfl) (hj : ops[j]? = some oj := by exact rfl) (hdj : oj.dst = some d' := by exact rfl)
  (hb : look e d' = some (.d (.v (.bool c))) := by exact rfl) (hd : o.dst = some d := by exact rfl) : PC P N w0 O0 id ops Q hs e0 M0 ps e (o :: rest) := PC.gT hsem hg hj hdj hb hc hd h
theorem PC.d0 (hm : P.follows .mixedOrders = true) (ht : TrOps P N w0 O0 ops Q e M0 rest) (hok : parOk ops ps.length = true := by kernel_rfl) (hh : handOk e0 M0 ps = true := by kernel_rfl) (hso : stOk hs ps = true := by kernel_rfl) (hN : ps.all (fun p => !p.ds || decide (p.d < N)) = true := by kernel_rfl) (hM : finM M0 ps = M0 := by kernel_rfl) :
  PC P N w0 O0 id ops Q hs e0 M0 ps e rest := PC.done0 hm hok hh hso hN hM ht
theorem PC.d1 (h : Nat) (m : Mo) (hm : P.follows .mixedOrders = true) (ht : TrOps P N w0 O0 ops Q e ((h, m) :: M0) rest) (hok : parOk ops ps.length = true := by kernel_rfl) (hh : handOk e0 M0 ps = true := by kernel_rfl) (hso : stOk hs ps = true := by kernel_rfl) (hN : ps.all (fun p => !p.ds || decide (p.d < N)) = true := by kernel_rfl) (hM : finM M0 ps = (h, m) :: M0 := by kernel_rfl) :
  PC P N w0 O0 id ops Q hs e0 M0 ps e rest := PC.done1 h m hm hok hh hso hN hM ht
theorem PC.dn (hm : P.follows .mixedOrders = true) (ht : TrOps P N w0 O0 ops Q e (finM M0 ps) rest) (hok : parOk ops ps.length = true := by kernel_rfl) (hh : handOk e0 M0 ps = true := by kernel_rfl) (hso : stOk hs ps = true := by kernel_rfl) (hN : ps.all (fun p => !p.ds || decide (p.d < N)) = true := by kernel_rfl) :
  PC P N w0 O0 id ops Q hs e0 M0 ps e rest := PC.done hm hok hh hso hN ht
variable {e' : Env} {M' : Mem} {n : Nat} {L : List Bool}
theorem Sub.all (h : Sub e M e' M' := by repeat' first | exact .nil | refine .slot rfl (.refl _) ?_ | refine .mem rfl ?_) : Sub e M e' M' := h
end
theorem Sub.sl {e e' : Env} {M M' : Mem} {n : Nat} {s s' : S} (t : Sub e M e' M') (h : look e n = some s := by exact rfl) (hl : Le s s' := by exact .refl _) : Sub e M ((n, s') :: e') M' := .slot h hl t
abbrev Tt : Bool := true
end Go.Eng
end

section
namespace Go.Eng
abbrev ptr (b off : Nat) : Value := .pointer (some ⟨b, off, none⟩)
abbrev slc (b len cap : Nat) : Value := .slice (some ⟨b, 0, none⟩) len cap
section
variable {P : Program} {B : Nat} {o : Oper} {e : Env} {M : Mem} {s : S}
theorem rep_v {O : Nat → Nat} {H : Nat → Value} {w : World} {x v : Value} (h : RepS O H w x (.d (.v v))) : x = v := by
 cases h with
 | d _ _ q => cases q with
  | v _ => rfl
theorem OpSem.nilv {x : Operand} {b off : Nat} (ho : o.op = .nilCheck x) (hx : opS e x = some (.d (.v (ptr b off)))) : OpSem P B o e M (.d (.v (ptr b off))) none :=
 .value fun O H a w hs _ => by
  have hr := rep_v (hs x (by simp [ho, Op.operands]) _ hx)
  exact ⟨ptr b off, by simp [execOp, ho, hr], .d _ _ (.v _)⟩
theorem OpSem.nilr {x : Operand} {h k : Nat} (ho : o.op = .nilCheck x) (hx : opS e x = some (.r h k)) : OpSem P B o e M (.r h k) none :=
 .value fun O H a w hs _ => by
  have hr := hs x (by simp [ho, Op.operands]) _ hx
  generalize hv : a.eval x = v at hr
  cases hr with
  | r h b k hH => exact ⟨ptr b k, by simp [execOp, ho, hv], .r h b k hH⟩
theorem OpSem.nilp {x : Operand} {cs : List D} (ho : o.op = .nilCheck x) (hx : opS e x = some (.p cs)) : OpSem P B o e M (.p cs) none :=
 .value fun O H a w hs _ => by
  have hr := hs x (by simp [ho, Op.operands]) _ hx
  generalize hv : a.eval x = v at hr
  cases hr with
  | p b off cs y hO hy hr => exact ⟨ptr b off, by simp [execOp, ho, hv], .p b off cs y hO hy hr⟩
theorem OpSem.fieldv {t k n b off : Nat} {x : Operand} (ho : o.op = .fieldAddr t x k) (hx : opS e x = some (.d (.v (ptr b off)))) (ht : fof P t k = some n) : OpSem P B o e M (.d (.v (ptr b (off + n)))) none :=
 .value fun O H a w hs _ => by
  have hr := rep_v (hs x (by simp [ho, Op.operands]) _ hx)
  exact ⟨ptr b (off + n), by simp [execOp, ho, hr, run_fieldAt ht], .d _ _ (.v _)⟩
theorem OpSem.lenv {x : Operand} {t k len cap : Nat} {a0 : Option Addr} (ho : o.op = .call { callee := .builtin .len, args := #[x], argTypes := #[t] }) (hx : opS e x = some (.d (.v (.slice a0 len cap)))) (ht : esz P t = some k) : OpSem P B o e M (.d (.v (.int .i64 len))) none :=
 .value fun O H a w hs _ => by
  have hr := rep_v (hs x (by simp [ho, Op.operands, Call.operands]) _ hx)
  exact ⟨_, by simp [execOp, ho, resolve, invoke, builtin, hr, run_len_slice w t _ _ _ _ (esz_spec ht).1, goInt], .d _ _ (.v _)⟩
end
section
variable {P : Program} {N : Nat} {w0 : World} {O0 : Nat → Nat} {ops : Array Oper} {Q : Post} {e : Env} {M : Mem} {rest : List Oper} {o : Oper} {s : S} {B : Nat}
theorem TrOps.ofSt0' {h : Nat} {m m' : Mo} (hst : OpSt P w0.heap.size o e h m m' s) (hM : look M h = some m) (hg : o.guard = none) (hd : o.dst = none)
  (hn : TrOps P N w0 O0 ops Q e ((h, m') :: M) rest) : TrOps P N w0 O0 ops Q e M (o :: rest) := by
 intro O H a w h0
 refine wpList_plain hg fun K hK => Oper.wp_false (hst O H a w h0.bl.size (h0.slotsAt _) (h0.mem h m hM) _ fun w' x h1 h2 h3 h4 => hK _ _ (hn O H _ _ ⟨?_, ?_, h0.bl.trans (h2.mono (Nat.le_refl _)), h0.lab, ?_, fun h' mm hm => ?_⟩)) _
 ·rw [hd]; exact h0.df
 ·rw [hd]; exact h0.sz
 ·rw [hd]
  intro n s' hs'
  obtain ⟨z, hz, hr⟩ := h0.slots n s' hs'
  exact ⟨z, hz, hr.mono0 h1⟩
 ·rcases look_cons hm with ⟨rfl, rfl⟩ | ⟨hne, hm⟩
  ·exact h3
  ·exact (h0.mem h' mm hm).mono h1 (by intro e; cases e; exact hne rfl) (by simp) 0 (fun h he => by cases he) (.inl rfl)
end
end Go.Eng
end

section
namespace Go.Eng
section
variable {P : Program} {B : Nat} {o : Oper} {e : Env} {M : Mem} {s : S}
theorem OpSem.i {t k : Nat} {x i : Operand} {kk : IntKind} {n : Int} {α : Type} [Inhabited α] {l : List α} {f : α → List D} (ht : esz P t = some k) (ho : o.op = .indexAddr t x i := by exact rfl) (hx : opS e x = some (.d (.s k (l.map f))) := by exact rfl) (hi : opS e i = some (.d (.v (.int kk n))) := by exact rfl)
  (h0 : 0 ≤ n := by omega) (h1 : n < l.length := by omega) : OpSem P B o e M (.p (f (nth l n))) none := .idxL ho hx hi ht h0 h1
theorem OpSem.l1 {t : TypeId} {x : Operand} {cs : List D} {d : D} (ht : vsz P t = some (false, 1)) (ho : o.op = .load t x := by exact rfl) (hx : opS e x = some (.p cs) := by exact rfl) (hd : cs[0]? = some d := by exact rfl) : OpSem P B o e M (.d d) none := .load1 ho hx ht hd
theorem OpSem.n {x : Operand} {t k : Nat} {α : Type} {l : List α} {f : α → List D} (ht : esz P t = some k) (ho : o.op = .call { callee := .builtin .len, args := #[x], argTypes := #[t] } := by exact rfl) (hx : opS e x = some (.d (.s k (l.map f))) := by exact rfl) : OpSem P B o e M (.d (.v (.int .i64 l.length))) none := .lenL ho hx ht
theorem OpSem.L {t : TypeId} {x : Operand} {h k n : Nat} {cs : List S} (ht : vsz P t = some (true, n)) (ho : o.op = .load t x := by exact rfl) (hx : opS e x = some (.r h k) := by exact rfl) (hM : look M h = some (.box cs) := by exact rfl) (hn : k + n ≤ cs.length := by first | decide | simp) : OpSem P B o e M (.g ((cs.drop k).take n)) none := .loadbN ho hx hM ht hn
theorem OpSem.xt {x : Operand} {n : Nat} {l : List S} (ho : o.op = .extract x n := by exact rfl) (hx : opS e x = some (.t l) := by exact rfl) (hn : l[n]? = some s := by exact rfl) : OpSem P B o e M s none := .extract ho hx hn
theorem OpSem.bd {t : TypeId} {ps : Array (Nat × Operand)} {l : List (Nat × S)} {pl : List (Nat × Nat)} {zs : List Value} {ss : List S} (hpl : places P t = some pl) (hz : zcells P t = some zs) (ho : o.op = .build t ps := by exact rfl) (hp : partsS e ps.toList = some l := by exact rfl)
  (h1 : zs.all Value.oneCell' = true := by exact rfl) (hf : fillS (pl[·]?) (zs.map fun z => .d (.v z)) l = some ss := by exact rfl) : OpSem P B o e M (.g ss) none := .build ho hp hpl hz h1 hf
theorem OpSem.lN {t : TypeId} {x : Operand} {cs : List D} {n : Nat} (ht : vsz P t = some (true, n)) (ho : o.op = .load t x := by exact rfl) (hx : opS e x = some (.p cs) := by exact rfl) (hn : n ≤ cs.length := by first | decide | simp) (h1 : (cs.take n).all D.one = true := by exact rfl) : OpSem P B o e M (.g ((cs.take n).map .d)) none := .loadN ho hx ht hn h1
theorem OpSem.nt {t : TypeId} {x : Operand} {b : Bool} (ho : o.op = .unOp .not t x := by exact rfl) (hx : opS e x = some (.d (.v (.bool b))) := by exact rfl) : OpSem P B o e M (.d (.v (.bool !b))) none := .not ho hx
end
section
variable {P : Program} {N : Nat} {w0 : World} {O0 : Nat → Nat} {ops : Array Oper} {Q : Post} {e : Env} {M : Mem} {rest : List Oper} {o o' : Oper} {s s' : S} {c : Code}
theorem Tr.g {d : Code} (h : Tr P N w0 O0 e M c (Exit.then (d.ww P Q) Q)) : Tr P N w0 O0 e M (.seq c d) Q := .seq h
theorem At.g (h : Tr P N w0 O0 e M c Q) : At N w0 O0 e M .normal (Exit.then (c.ww P Q) Q) := h
theorem Tr.r {id : Nat} {l : List Oper} (h : TrOps P N w0 O0 l.toArray Q e M l) : Tr P N w0 O0 e M (.region id l.toArray false) Q := .region h
theorem Tr.k {id : Nat} (h : Tr P N w0 O0 e M c (Exit.inBlock id Q)) : Tr P N w0 O0 e M (.block id c) Q := .block h
theorem Tr.p (h : At N w0 O0 e M .normal Q) : Tr P N w0 O0 e M .skip Q := .skip h
theorem TrOps.n (h : At N w0 O0 e M .normal Q) : TrOps P N w0 O0 ops Q e M [] := .nil h
theorem Tr.u {id : Nat} (h : At N w0 O0 e M (.exit id) Q) : Tr P N w0 O0 e M (.exit id) Q := .exit h
theorem At.u {K : Act → World → Prop} {i : Nat} (h : At N w0 O0 e M (.exit i) Q) : At N w0 O0 e M (.exit i) (Exit.then K Q) := h
theorem At.n {i : Nat} (h : At N w0 O0 e M .normal Q) : At N w0 O0 e M .normal (Exit.inBlock i Q) := h
theorem At.k {i : Nat} (h : At N w0 O0 e M .ret Q) : At N w0 O0 e M .ret (Exit.inBlock i Q) := h
theorem At.b {i : Nat} (h : At N w0 O0 e M .normal Q) : At N w0 O0 e M (.exit i) (Exit.inBlock i Q) := .block_same h
theorem Tr.t (h : At N w0 O0 e M .ret Q) : Tr P N w0 O0 e M .ret Q := .ret h
theorem At.t {K : Act → World → Prop} (h : At N w0 O0 e M .ret Q) : At N w0 O0 e M .ret (Exit.then K Q) := h
theorem TrOps.mm {x x' : Operand} {d d' : Nat} (h : TrOps P N w0 O0 ops Q ((d', s') :: (d, s) :: e) M rest) (ho : o.op = .move x := by exact rfl) (hx : opS e x = some s := by exact rfl) (hg : o.guard = none := by exact rfl) (hd : o.dst = some d := by exact rfl) (hdN : d < N := by decide)
  (ho' : o'.op = .move x' := by exact rfl) (hx' : opS ((d, s) :: e) x' = some s' := by exact rfl) (hg' : o'.guard = none := by exact rfl) (hd' : o'.dst = some d' := by exact rfl) (hdN' : d' < N := by decide) : TrOps P N w0 O0 ops Q e M (o :: o' :: rest) := TrOps.m (TrOps.m h ho' hx' hg' hd' hdN') ho hx hg hd hdN
theorem TrOps.al {t : TypeId} {zs : List Value} {d : Nat} (k : Nat) (hz : zcells P t = some zs) (h : TrOps P N w0 O0 ops Q ((d, .r k 0) :: kill k e) ((k, .box (zs.map fun z => .d (.v z))) :: killM k M) rest) (ho : o.op = .alloc t := by exact rfl) (h1 : zs.all Value.oneCell' = true := by exact rfl) (hg : o.guard = none := by exact rfl) (hd : o.dst = some d := by exact rfl) (hdN : d < N := by decide) : TrOps P N w0 O0 ops Q e M (o :: rest) := TrOps.semM (OpSem.alloc k ho hz h1) hg hd hdN h
theorem TrOps.bx {t : TypeId} {x : Operand} {ss : List S} {d : Nat} (k : Nat) (h : TrOps P N w0 O0 ops Q ((d, .r k 0) :: kill k e) ((k, .box ss) :: killM k M) rest) (ho : o.op = .box t x := by exact rfl) (hx : opS e x = some s := by exact rfl) (hs : s.cells = some ss := by exact rfl) (hk : ss.all (S.ok 9 k) = true := by exact rfl) (hg : o.guard = none := by exact rfl) (hd : o.dst = some d := by exact rfl) (hdN : d < N := by decide) : TrOps P N w0 O0 ops Q e M (o :: rest) := TrOps.semM (OpSem.box k ho hx hs hk) hg hd hdN h
theorem TrOps.mk {t k : Nat} {x y : Operand} {n : Int} {zs : List Value} {by_ d : Nat} (q : Nat) (hk : esz P t = some k) (hz : zcells P (P.elem t) = some zs) (hby : P.bytesOf (P.elem t) = by_) (h : TrOps P N w0 O0 ops Q ((d, .o q) :: kill q e) ((q, .own k (P.elem t) (List.replicate n.toNat (zs.map .v))) :: killM q M) rest)
  (ho : o.op = .makeSlice t x y := by exact rfl) (hx : opS e x = some (.d (.v (.int .i64 n))) := by exact rfl) (hy : opS e y = some (.d (.v (.int .i64 n))) := by exact rfl) (h1 : zs.all Value.oneCell' = true := by exact rfl) (hzk : zs.length = k := by exact rfl) (hk0 : 0 < k := by decide) (hn : 0 ≤ n := by omega) (hroom : by_ * n ≤ 2 ^ 48 := by omega) (hmax : n ≤ 2 ^ 63 - 1 := by omega)
  (hg : o.guard = none := by exact rfl) (hd : o.dst = some d := by exact rfl) (hdN : d < N := by decide) : TrOps P N w0 O0 ops Q e M (o :: rest) := TrOps.semM (OpSem.makeSlice q ho hx hy hk hz h1 hzk hk0 hby hn hroom hmax) hg hd hdN h
theorem Tr.lg {k : Nat} {cs : List S} {α : Type} {l : List α} {f : α → List D} (n i : Nat) (h : (l.length : Int) ≤ 9223372036854775807 → Tr P N w0 O0 e M c Q) (hn : look e n = some (.g cs) := by exact rfl) (hi : cs[i]? = some (.d (.s k (l.map f))) := by exact rfl) : Tr P N w0 O0 e M c Q := .lenG hn hi h
theorem Tr.le {k : Nat} {α : Type} {l : List α} {f : α → List D} (n : Nat) (h : (l.length : Int) ≤ 9223372036854775807 → Tr P N w0 O0 e M c Q) (hn : look e n = some (.d (.s k (l.map f))) := by exact rfl) : Tr P N w0 O0 e M c Q := .lenLe hn h
section
variable {id : Nat} {hs : List Nat} {e0 : Env} {M0 : Mem} {ps : List PO}
theorem PC.mm {x x' : Operand} {d d' : Nat} (h : PC P N w0 O0 id ops Q hs e0 M0 (ps ++ [⟨d, s, none, none, true⟩] ++ [⟨d', s', none, none, true⟩]) ((d', s') :: (d, s) :: e) rest) (ho : o.op = .move x := by exact rfl) (hx : opS e x = some s := by exact rfl) (hg : o.guard = none := by exact rfl) (hd : o.dst = some d := by exact rfl)
  (ho' : o'.op = .move x' := by exact rfl) (hx' : opS ((d, s) :: e) x' = some s' := by exact rfl) (hg' : o'.guard = none := by exact rfl) (hd' : o'.dst = some d' := by exact rfl) : PC P N w0 O0 id ops Q hs e0 M0 ps e (o :: o' :: rest) := PC.m (PC.m h ho' hx' hg' hd') ho hx hg hd
end
variable {e' : Env} {M' : Mem} {n : Nat} {L : List Bool}
end
section
variable {e e' : Env} {M M' : Mem} {n1 n2 n3 n4 n5 n6 n7 n8 : Nat} {s1 s2 s3 s4 s5 s6 s7 s8 t1 t2 t3 t4 t5 t6 t7 t8 : S}
theorem Sub.p2 (t : Sub e M e' M') (h1 : look e n1 = some s1 := by exact rfl) (k1 : Le s1 t1 := by exact .refl _) (h2 : look e n2 = some s2 := by exact rfl) (k2 : Le s2 t2 := by exact .refl _) : Sub e M ((n1, t1) :: (n2, t2) :: e') M' := .slot h1 k1 (.slot h2 k2 t)
theorem Sub.p3 (t : Sub e M e' M') (h1 : look e n1 = some s1 := by exact rfl) (k1 : Le s1 t1 := by exact .refl _) (h2 : look e n2 = some s2 := by exact rfl) (k2 : Le s2 t2 := by exact .refl _) (h3 : look e n3 = some s3 := by exact rfl) (k3 : Le s3 t3 := by exact .refl _) : Sub e M ((n1, t1) :: (n2, t2) :: (n3, t3) :: e') M' := .slot h1 k1 (.p2 t h2 k2 h3 k3)
theorem Sub.p5 (t : Sub e M e' M') (h1 : look e n1 = some s1 := by exact rfl) (k1 : Le s1 t1 := by exact .refl _) (h2 : look e n2 = some s2 := by exact rfl) (k2 : Le s2 t2 := by exact .refl _) (h3 : look e n3 = some s3 := by exact rfl) (k3 : Le s3 t3 := by exact .refl _) (h4 : look e n4 = some s4 := by exact rfl) (k4 : Le s4 t4 := by exact .refl _) (h5 : look e n5 = some s5 := by exact rfl) (k5 : Le s5 t5 := by exact .refl _) : Sub e M ((n1, t1) :: (n2, t2) :: (n3, t3) :: (n4, t4) :: (n5, t5) :: e') M' := .p2 (.p3 t h3 k3 h4 k4 h5 k5) h1 k1 h2 k2
end
end Go.Eng
end

section
namespace Go.Eng
inductive OB where
 | c (T : Nat) (l : List Value)
 | m (l : List (Int × Value))
abbrev HP := Nat → Option OB
abbrev u32 (n : Int) : Value := .int .u32 n
def OB.at (w : World) (b : Nat) : OB → Prop
 | .c T l => w.heap[b]? = some (.cells l.toArray T (0, 0))
 | .m l => ∃ es clock, w.heap[b]? = some (.map es clock) ∧ es.toList.map (fun e => (e.key, e.val)) = l.map fun p => (u32 p.1, p.2)
theorem OB.lt {w : World} {b : Nat} {x : OB} (h : x.at w b) : b < w.heap.size := by
 cases x with
 | c T l => exact (Array.getElem?_eq_some_iff.1 h).1
 | m l => obtain ⟨es, clock, h, _⟩ := h; exact (Array.getElem?_eq_some_iff.1 h).1
theorem OB.mono {w w' : World} {b : Nat} {x : OB} (h : x.at w b) (hk : w'.heap[b]? = w.heap[b]?) : x.at w' b := by
 cases x with
 | c T l => exact hk.trans h
 | m l => obtain ⟨es, clock, h1, h2⟩ := h; exact ⟨es, clock, hk.trans h1, h2⟩
def poK (F : HP) : Km := {
 q := fun O _ B w h => ∀ b x, F b = some x → B ≤ b ∧ O b = h + 1 ∧ x.at w b
 mono := by
  intro O O' v B w w' h hk hq b x hF
  obtain ⟨h1, h2, h3⟩ := hq b x hF
  obtain ⟨k1, k2⟩ := hk b (OB.lt h3) (.inr h2)
  exact ⟨h1, k1.trans h2, OB.mono h3 k2⟩ }
abbrev poM (F : HP) : Mo := .any (poK F)
def noO : HP := fun _ => none
def oneO (b : Nat) (x : OB) : HP := fun c => if c = b then some x else none
theorem oneO_s {b : Nat} {x : OB} : oneO b x b = some x := by simp [oneO]
theorem oneO_ne {b c : Nat} {x y : OB} (h : oneO b x c = some y) : c = b ∧ y = x := by
 unfold oneO at h
 split at h
 ·cases h; exact ⟨by assumption, rfl⟩
 ·cases h
abbrev Pl := Option (Nat × Nat × List Value)
def plV (p : Pl) (n : Nat) : Value := match p with
 | none => .slice none 0 0
 | some (b, cap, _) => slc b n cap
def plMe (T : Nat) (p : Pl) (l : List Value) : HP := match p with
 | none => noO
 | some (b, _, tl) => oneO b (.c T (l ++ tl))
structure PlOk (p : Pl) (k n : Nat) (l : List Value) : Prop where
 e : p = none → n = 0
 len : l.length = n * k
 s : ∀ b cap tl, p = some (b, cap, tl) → (l ++ tl).length = cap * k ∧ n ≤ cap ∧ cap ≤ maxLen
def updO (F : HP) (b : Nat) (x : OB) : HP := fun c => if c = b then some x else F c
theorem updO_one {b : Nat} {x y : OB} : updO (oneO b x) b y = oneO b y := by
 funext c; unfold updO oneO; split <;> rfl
def lookI (l : List (Int × Value)) (n : Int) : Option Value := (l.find? fun p => decide (p.1 = n)).map (·.2)
def putI : List (Int × Value) → Int → Value → List (Int × Value)
 | [], n, v => [(n, v)]
 | p :: l, n, v => if p.1 = n then (n, v) :: l else p :: putI l n v
def delI : List (Int × Value) → Int → List (Int × Value)
 | [], _ => []
 | p :: l, n => if p.1 = n then l else p :: delI l n
theorem lookI_cons {p : Int × Value} {l : List (Int × Value)} {n : Int} : lookI (p :: l) n = if p.1 = n then some p.2 else lookI l n := by
 unfold lookI
 by_cases h : p.1 = n <;> simp [List.find?_cons, h]
theorem lookI_put {n : Int} {v : Value} : ∀ {l : List (Int × Value)} {m : Int}, lookI (putI l n v) m = if m = n then some v else lookI l m
 | [], m => by
  simp only [putI, lookI_cons]
  by_cases h : n = m
  ·rw [if_pos h, if_pos h.symm]
  ·rw [if_neg h, if_neg (fun e => h e.symm)]
 | p :: l, m => by
  simp only [putI]
  by_cases hp : p.1 = n
  ·rw [if_pos hp, lookI_cons]
   by_cases h : n = m
   ·rw [if_pos h, if_pos h.symm]
   ·rw [if_neg h, if_neg (fun e => h e.symm), lookI_cons, if_neg (by rw [hp]; exact h)]
  ·rw [if_neg hp, lookI_cons, lookI_cons, lookI_put]
   by_cases h : p.1 = m
   ·rw [if_pos h, if_pos h, if_neg (fun e => hp (by rw [h, e]))]
   ·rw [if_neg h, if_neg h]
section
variable {P : Program} {N : Nat} {w0 : World} {O0 : Nat → Nat} {ops : Array Oper} {Q : Post} {e : Env} {M : Mem} {rest : List Oper} {B : Nat} {o : Oper} {s : S} {c : Code}
theorem OpSem.loadO {t : TypeId} {x : Operand} {b off T h : Nat} {F : HP} {l : List Value} {v : Value} (ho : o.op = .load t x) (hx : opS e x = some (.d (.v (ptr b off)))) (hM : look M h = some (poM F)) (ht : vsz P t = some (false, 1))
  (hF : F b = some (.c T l)) (hv : l[off]? = some v) : OpSem P B o e M (.d (.v v)) none :=
 .value fun O H a w hs hm => by
  have hr := rep_v (hs x (by simp [ho, Op.operands]) _ hx)
  obtain ⟨_, _, hb⟩ := hm h _ hM b _ hF
  exact ⟨v, by simp [execOp, ho, Instr.loadAt, Instr.sureAddr, hr, run_loadVar1 ht (cellOf hb (by simpa using hv))], .d _ _ (.v _)⟩
theorem OpSem.loadON {t : TypeId} {x : Operand} {b off T h : Nat} {F : HP} {l vs : List Value} (ho : o.op = .load t x) (hx : opS e x = some (.d (.v (ptr b off)))) (hM : look M h = some (poM F)) (ht : vsz P t = some (true, vs.length))
  (hF : F b = some (.c T l)) (hv : (l.drop off).take vs.length = vs) (h1 : ∀ v, v ∈ vs → v.oneCell' = true) : OpSem P B o e M (.g (vs.map fun v => .d (.v v))) none :=
 .value fun O H a w hs hm => by
  have hr := rep_v (hs x (by simp [ho, Op.operands]) _ hx)
  obtain ⟨_, _, hb⟩ := hm h _ hM b _ hF
  refine ⟨.agg vs.toArray, ?_, .g vs _ (by simp) h1 fun i y s hy hs' => ?_⟩
  ·have := run_loadVarN (P := P) ht (w := w) (b := b) (off := off) (fun j v hj => cellOf hb (by
    have hlt := (List.getElem?_eq_some_iff.1 hj).1
    have e1 : ((l.drop off).take vs.length)[j]? = some v := by rw [hv]; exact hj
    rw [List.getElem?_take_of_lt hlt, List.getElem?_drop] at e1
    simpa using e1))
   simp [execOp, ho, Instr.loadAt, Instr.sureAddr, hr, this]
  ·rw [List.getElem?_map, hy] at hs'
   cases hs'; exact .d _ _ (.v _)
theorem OpSt.storeO {t : TypeId} {x y : Operand} {b off T h : Nat} {F F' : HP} {l : List Value} {v : Value} (ho : o.op = .store t x y) (hx : opS e x = some (.d (.v (ptr b off)))) (hy : opS e y = some (.d (.v v))) (ht : vsz P t = some (false, 1))
  (hF : F b = some (.c T l)) (hl : off < l.length) (h1 : v.oneCell' = true) (hF' : updO F b (.c T (l.set off v)) = F') : OpSt P B o e h (poM F) (poM F') .u := by
 intro O H a w hBw hsl hm K hK
 subst hF'
 have hr := rep_v (hsl x (by simp [ho, Op.operands]) _ hx)
 have hv := rep_v (hsl y (by simp [ho, Op.operands]) _ hy)
 obtain ⟨hB, hO, hb⟩ := hm b _ hF
 have hcells : v.cells = #[v] := by cases v <;> simp_all [Value.cells, Value.oneCell']
 have hrun := run_storeVar (P := P) (v := v) ht (off := off) hb (by rw [hcells]; rfl) (by simp; omega) (by rw [hcells]; intro z hz; simp at hz; rw [hz]; exact h1)
 have hset : (l.toArray.toList.take off ++ v.cells.toList ++ l.toArray.toList.drop (off + 1)).toArray = (l.set off v).toArray := by
  apply Array.ext'
  simp only [hcells, List.toList_toArray]
  rw [List.set_eq_take_append_cons_drop, if_pos hl]
  simp
 rw [hset] at hrun
 unfold Oper.wp
 simp only [execOp, ho, hr, hv, Instr.storeAt, Instr.sureAddr, Sem.run_bind, Sem.run_pure, Result.andThen_ok, hrun, Oper.upon_skip]
 refine hK _ _ (Keep.setRow hO) ((Below.setRow hB).mono (Nat.le_refl _)) (fun c z hc => ?_) (.u _)
 unfold updO at hc
 by_cases hcb : c = b
 ·subst hcb
  rw [if_pos rfl] at hc
  cases hc
  exact ⟨hB, hO, setRow_heap w c l.toArray _ T _ hb⟩
 ·rw [if_neg hcb] at hc
  obtain ⟨g1, g2, g3⟩ := hm c z hc
  exact ⟨g1, g2, OB.mono g3 (setRow_other w b c _ hcb)⟩
theorem OpSem.idxO {t b len cap off k : Nat} {x i : Operand} {kk : IntKind} {n : Int} (ho : o.op = .indexAddr t x i) (hx : opS e x = some (.d (.v (.slice (some ⟨b, off, none⟩) len cap)))) (hi : opS e i = some (.d (.v (.int kk n))))
  (ht : esz P t = some k) (h0 : 0 ≤ n) (h1 : n < len) : OpSem P B o e M (.d (.v (ptr b (off + n.toNat * k)))) none :=
 .value fun O H a w hs _ => by
  have hr := rep_v (hs x (by simp [ho, Op.operands]) _ hx)
  have hu := rep_v (hs i (by simp [ho, Op.operands]) _ hi)
  exact ⟨ptr b (off + n.toNat * k), by simp [execOp, ho, hr, hu, run_idx ht h0 h1], .d _ _ (.v _)⟩
theorem run_findNow {u : TypeDesc} (hu : ∃ k, u = .int k) {n : Int} : ∀ {es : List MapEntry} {l : List (Int × Value)} {i : Nat}, es.map (fun e => (e.key, e.val)) = l.map (fun p => (u32 p.1, p.2)) →
  Instr.findNow u (u32 n) es i = some ((l.findIdx? fun p => decide (p.1 = n)).bind fun j => (l[j]?).map fun p => (i + j, p.2))
 | [], [], i, _ => by simp [Instr.findNow]
 | [], _ :: _, _, h => by simp at h
 | _ :: _, [], _, h => by simp at h
 | x :: es, p :: l, i, h => by
  simp only [List.map_cons, List.cons.injEq, Prod.mk.injEq] at h
  obtain ⟨⟨h1, h2⟩, h3⟩ := h
  obtain ⟨k, rfl⟩ := hu
  have hs : Instr.sameNow (.int k) (u32 n) x.key = some (n == p.1) := by rw [h1]; simp [Instr.sameNow]
  by_cases hp : p.1 = n
  ·have : (n == p.1) = true := by simp [hp]
   simp [Instr.findNow, hs, this, List.findIdx?_cons, hp, h2]
  ·have : (n == p.1) = false := by simp; exact fun e => hp e.symm
   simp only [Instr.findNow, hs, this]
   rw [run_findNow ⟨k, rfl⟩ h3]
   simp only [List.findIdx?_cons, decide_eq_false hp]
   cases hf : l.findIdx? (fun p => decide (p.1 = n)) with
   | none => simp
   | some j => simp [Nat.add_comm, Nat.add_left_comm, Nat.add_assoc]
theorem findIdx_look {n : Int} : ∀ {l : List (Int × Value)}, ((l.findIdx? fun p => decide (p.1 = n)).bind fun j => (l[j]?).map (·.2)) = lookI l n
 | [] => by simp [lookI]
 | p :: l => by
  rw [lookI_cons]
  by_cases hp : p.1 = n
  ·simp [List.findIdx?_cons, hp]
  ·rw [if_neg hp, ← findIdx_look]
   simp only [List.findIdx?_cons, decide_eq_false hp]
   cases hf : l.findIdx? (fun p => decide (p.1 = n)) with
   | none => simp
   | some j => simp
def intU (P : Program) (t : TypeId) : Bool := match P.underlying t with | some (.int _) => true | _ => false
theorem intU_spec {t : TypeId} (h : intU P t = true) : ∃ u, P.underlying t = some u ∧ ∃ k, u = .int k := by
 unfold intU at h
 cases hu : P.underlying t with
 | none => simp [hu] at h
 | some u => cases u <;> simp only [hu] at h <;> first | (cases h; done) | exact ⟨_, rfl, _, rfl⟩
theorem run_checkKeyU {em : Bool} {t : TypeId} (ht : intU P t = true) {n : Int} (w : World) : (Instr.checkKey em 10000 t (u32 n)).run P w = .ok () w := by
 obtain ⟨u, hu, k, rfl⟩ := intU_spec ht
 rw [Instr.checkKey]
 simp [run_underlying hu]
theorem run_findKeyU {t : TypeId} (ht : intU P t = true) {n : Int} {es : List MapEntry} {l : List (Int × Value)} (h : es.map (fun e => (e.key, e.val)) = l.map (fun p => (u32 p.1, p.2))) (w : World) :
  (Instr.findKey t (u32 n) es).run P w = .ok ((l.findIdx? fun p => decide (p.1 = n)).bind fun j => (l[j]?).map fun p => (j, p.2)) w := by
 obtain ⟨u, hu, hk⟩ := intU_spec ht
 unfold Instr.findKey
 simp only [Sem.run_bind, run_underlying hu, Result.andThen_ok, run_findNow hk h, Nat.zero_add, Sem.run_pure]
theorem bind_snd {n : Int} {l : List (Int × Value)} : ((l.findIdx? fun p => decide (p.1 = n)).bind fun j => (l[j]?).map fun p => (j, p.2)).map (·.2) = lookI l n := by
 rw [← findIdx_look]
 cases l.findIdx? (fun p => decide (p.1 = n)) with
 | none => rfl
 | some j => simp; cases l[j]? <;> rfl
theorem run_zv {t : TypeId} {z : Value} (h : (P.info? t).bind (·.zero) = some z) (w : World) : (zeroValue t).run P w = .ok z w := by
 cases hq : P.info? t with
 | none => simp [hq] at h
 | some i => simp [hq] at h; simp [zeroValue, typeInfo, hq, h]
theorem run_lookO {mt kt et b : Nat} {l : List (Int × Value)} {n : Int} {z : Value} {ok : Bool} {w : World} (hu : P.underlying mt = some (.map kt et)) (hi : intU P kt = true) (hz : (P.info? et).bind (·.zero) = some z) (hb : (OB.m l).at w b) :
  (Instr.lookup mt (.map (some b)) (u32 n) ok).run P w = .ok (if ok then .tuple #[(lookI l n).getD z, .bool (lookI l n).isSome] else (lookI l n).getD z) w := by
 obtain ⟨es, clock, h1, h2⟩ := hb
 have hf := run_findKeyU hi (n := n) h2 w
 have hs := bind_snd (l := l) (n := n)
 generalize ((l.findIdx? fun p => decide (p.1 = n)).bind fun j => (l[j]?).map fun p => (j, p.2)) = q at hf hs
 simp only [Instr.lookup, Sem.run_bind, run_underlying hu, Result.andThen_ok, Sem.run_pure, Go.MapKept.run_getObj_map h1, run_checkKeyU hi, hf]
 rw [← hs]
 cases q with
 | none => cases ok <;> simp [run_zv hz]
 | some q => cases ok <;> simp
theorem OpSem.lookO {mt kt et b h : Nat} {m k : Operand} {F : HP} {l : List (Int × Value)} {n : Int} {z v : Value} (ho : o.op = .lookup mt m k false) (hx : opS e m = some (.d (.v (.map (some b))))) (hk : opS e k = some (.d (.v (u32 n))))
  (hM : look M h = some (poM F)) (hF : F b = some (.m l)) (hu : P.underlying mt = some (.map kt et)) (hi : intU P kt = true) (hz : (P.info? et).bind (·.zero) = some z) (hv : (lookI l n).getD z = v) : OpSem P B o e M (.d (.v v)) none :=
 .value fun O H a w hs hm => by
  have hr := rep_v (hs m (by simp [ho, Op.operands]) _ hx)
  have hk' := rep_v (hs k (by simp [ho, Op.operands]) _ hk)
  have := run_lookO (ok := false) (n := n) hu hi hz (hm h _ hM b _ hF).2.2
  rw [hv] at this
  exact ⟨v, by simp [execOp, ho, hr, hk', this], .d _ _ (.v _)⟩
theorem OpSem.lookO2 {mt kt et b h : Nat} {m k : Operand} {F : HP} {l : List (Int × Value)} {n : Int} {z v : Value} {f : Bool} (ho : o.op = .lookup mt m k true) (hx : opS e m = some (.d (.v (.map (some b))))) (hk : opS e k = some (.d (.v (u32 n))))
  (hM : look M h = some (poM F)) (hF : F b = some (.m l)) (hu : P.underlying mt = some (.map kt et)) (hi : intU P kt = true) (hz : (P.info? et).bind (·.zero) = some z) (hv : (lookI l n).getD z = v) (hf : (lookI l n).isSome = f) : OpSem P B o e M (.t [.d (.v v), .d (.v (.bool f))]) none :=
 .value fun O H a w hs hm => by
  have hr := rep_v (hs m (by simp [ho, Op.operands]) _ hx)
  have hk' := rep_v (hs k (by simp [ho, Op.operands]) _ hk)
  have := run_lookO (ok := true) (n := n) hu hi hz (hm h _ hM b _ hF).2.2
  rw [hv, hf] at this
  refine ⟨.tuple #[v, .bool f], by simp [execOp, ho, hr, hk', this], .t [v, .bool f] _ rfl fun i x s hx hs => ?_⟩
  rcases i with _ | _ | i <;> simp at hx hs <;> subst hx <;> subst hs <;> exact .d _ _ (.v _)
theorem OpSem.lenMO {t h kt et b : Nat} {x : Operand} {F : HP} {l : List (Int × Value)} (ho : o.op = .call { callee := .builtin .len, args := #[x], argTypes := #[t] }) (hx : opS e x = some (.d (.v (.map (some b))))) (hM : look M h = some (poM F)) (hF : F b = some (.m l)) (hu : P.underlying t = some (.map kt et)) : OpSem P B o e M (.d (.v (.int .i64 l.length))) none :=
 .value fun O H a w hs hm => by
  have hr := rep_v (hs x (by simp [ho, Op.operands, Call.operands]) _ hx)
  obtain ⟨_, _, es, clock, h1, h2⟩ := hm h _ hM b _ hF
  have hl : es.size = l.length := by have := congrArg List.length h2; simpa using this
  exact ⟨.int .i64 l.length, by simp [execOp, ho, resolve, invoke, builtin, hr, Builtin.len_, run_underlying hu, Go.MapKept.run_getObj_map h1, hl, goInt], .d _ _ (.v _)⟩
theorem put_es {n : Int} {v : Value} : ∀ {es : List MapEntry} {l : List (Int × Value)}, es.map (fun e => (e.key, e.val)) = l.map (fun p => (u32 p.1, p.2)) → ∀ {j : Nat}, (l.findIdx? fun p => decide (p.1 = n)) = some j →
  (es.modify j fun e => { e with key := u32 n, val := v }).map (fun e => (e.key, e.val)) = (putI l n v).map fun p => (u32 p.1, p.2)
 | [], [], _, j, h => by simp at h
 | [], _ :: _, h, _, _ => by simp at h
 | _ :: _, [], h, _, _ => by simp at h
 | x :: es, p :: l, h, j, hj => by
  simp only [List.map_cons, List.cons.injEq, Prod.mk.injEq] at h
  obtain ⟨⟨h1, h2⟩, h3⟩ := h
  by_cases hp : p.1 = n
  ·simp [List.findIdx?_cons, hp] at hj
   subst hj
   simp [putI, hp, h3]
  ·simp only [List.findIdx?_cons, decide_eq_false hp, Bool.false_eq_true, if_false, Option.map_eq_some_iff] at hj
   obtain ⟨i, hi, rfl⟩ := hj
   have := put_es (v := v) h3 hi
   simp only [List.modify_succ_cons, List.map_cons, putI, if_neg hp, this, h1, h2]
theorem put_new {n : Int} {v : Value} : ∀ {l : List (Int × Value)}, (l.findIdx? fun p => decide (p.1 = n)) = none → putI l n v = l ++ [(n, v)]
 | [], _ => rfl
 | p :: l, h => by
  by_cases hp : p.1 = n
  ·simp [List.findIdx?_cons, hp] at h
  ·simp only [List.findIdx?_cons, decide_eq_false hp, Bool.false_eq_true, if_false, Option.map_eq_none_iff] at h
   simp [putI, hp, put_new h]
theorem del_es {n : Int} : ∀ {es : List MapEntry} {l : List (Int × Value)}, es.map (fun e => (e.key, e.val)) = l.map (fun p => (u32 p.1, p.2)) → ∀ {j : Nat}, (l.findIdx? fun p => decide (p.1 = n)) = some j →
  (es.eraseIdx j).map (fun e => (e.key, e.val)) = (delI l n).map fun p => (u32 p.1, p.2)
 | [], [], _, j, h => by simp at h
 | [], _ :: _, h, _, _ => by simp at h
 | _ :: _, [], h, _, _ => by simp at h
 | x :: es, p :: l, h, j, hj => by
  simp only [List.map_cons, List.cons.injEq, Prod.mk.injEq] at h
  obtain ⟨⟨h1, h2⟩, h3⟩ := h
  by_cases hp : p.1 = n
  ·simp [List.findIdx?_cons, hp] at hj
   subst hj
   simp [delI, hp, h3]
  ·simp only [List.findIdx?_cons, decide_eq_false hp, Bool.false_eq_true, if_false, Option.map_eq_some_iff] at hj
   obtain ⟨i, hi, rfl⟩ := hj
   have := del_es h3 hi
   simp only [List.eraseIdx_cons_succ, List.map_cons, delI, if_neg hp, this, h1, h2]
theorem del_no {n : Int} : ∀ {l : List (Int × Value)}, (l.findIdx? fun p => decide (p.1 = n)) = none → delI l n = l
 | [], _ => rfl
 | p :: l, h => by
  by_cases hp : p.1 = n
  ·simp [List.findIdx?_cons, hp] at h
  ·simp only [List.findIdx?_cons, decide_eq_false hp, Bool.false_eq_true, if_false, Option.map_eq_none_iff] at h
   simp [delI, hp, del_no h]
theorem poK_set {O : Nat → Nat} {F : HP} {v : Value} {w w' : World} {h b : Nat} {x : OB} (hm : (poK F).q O v B w h) (hb : B ≤ b) (hO : O b = h + 1) (hx : x.at w' b) (ho : ∀ c, c ≠ b → w'.heap[c]? = w.heap[c]?) : (poK (updO F b x)).q O v B w' h := by
 intro c z hc
 unfold updO at hc
 by_cases hcb : c = b
 ·subst hcb; rw [if_pos rfl] at hc; cases hc; exact ⟨hb, hO, hx⟩
 ·rw [if_neg hcb] at hc
  obtain ⟨g1, g2, g3⟩ := hm c z hc
  exact ⟨g1, g2, OB.mono g3 (ho c hcb)⟩
theorem OpSt.putO {mt kt et b h : Nat} {m k x : Operand} {F F' : HP} {l : List (Int × Value)} {n : Int} {v : Value} {sx : S} (ho : o.op = .mapUpdate mt m k x ∨ o.op = .insert mt m k x) (hx : opS e m = some (.d (.v (.map (some b))))) (hk : opS e k = some (.d (.v (u32 n)))) (hv : opS e x = some sx) (hvs : ∀ H, valS H 9 sx = some v)
  (hF : F b = some (.m l)) (hu : P.underlying mt = some (.map kt et)) (hi : intU P kt = true) (hF' : updO F b (.m (putI l n v)) = F') : OpSt P B o e h (poM F) (poM F') .u := by
 intro O H a w hBw hsl hm K hK
 subst hF'
 have hops : o.op.operands = #[m, k, x] := by rcases ho with ho | ho <;> simp [ho, Op.operands]
 have hr := rep_v (hsl m (by simp [hops]) _ hx)
 have hk' := rep_v (hsl k (by simp [hops]) _ hk)
 have hv' := valS_rep 9 (hsl x (by simp [hops]) _ hv) (hvs H)
 obtain ⟨hB, hO, es, clock, h1, h2⟩ := hm b _ hF
 have hlt : b < w.heap.size := (Array.getElem?_eq_some_iff.1 h1).1
 have hf := run_findKeyU hi (n := n) h2 w
 have hex : ∃ w', (Instr.mapUpdate mt (.map (some b)) (u32 n) v).run P w = .ok () w' ∧ (OB.m (putI l n v)).at w' b ∧ (∀ c, c ≠ b → w'.heap[c]? = w.heap[c]?) ∧ w'.os = w.os ∧ w'.tape = w.tape ∧ w'.output = w.output ∧ w.heap.size = w'.heap.size ∧ w.drawn ≤ w'.drawn := by
  cases hj : l.findIdx? (fun p => decide (p.1 = n)) with
  | none =>
   rw [hj] at hf
   refine ⟨{ w with heap := w.heap.setIfInBounds b (.map (es.push { key := u32 n, val := v, born := clock }) (clock + 1)) }, by simp only [Instr.mapUpdate, Sem.run_bind, run_underlying hu, Result.andThen_ok, Sem.run_pure, Go.MapKept.run_getObj_map h1, run_checkKeyU hi, hf, Option.bind_none, Go.MapKept.run_setObj_map _ h1], ⟨es.push { key := u32 n, val := v, born := clock }, clock + 1, by simp [hlt], by simp [h2, put_new hj]⟩, fun c hc => by simp [Array.getElem?_setIfInBounds, Ne.symm hc], rfl, rfl, rfl, by simp, Nat.le_refl _⟩
  | some j =>
   have hjl : j < l.length := (List.findIdx?_eq_some_iff_getElem.1 hj).1
   have hjn := (List.findIdx?_eq_some_iff_getElem.1 hj).2.1
   simp only [decide_eq_true_eq] at hjn
   rw [hj] at hf
   simp only [Option.bind_some, List.getElem?_eq_getElem hjl, Option.map_some] at hf
   have hkey : ((es[j]?).map (·.key)).getD (u32 n) = u32 n := by
    have := congrArg (fun q => q[j]?) h2
    simp only [List.getElem?_map, List.getElem?_eq_getElem hjl, Option.map_some, Array.getElem?_toList] at this
    cases he : es[j]? with
    | none => simp [he] at this
    | some x => simp [he] at this; simp [this.1, hjn]
   have hst : ∀ w, (Instr.keyThatStays (u32 n) (u32 n)).run P w = .ok (u32 n) w := fun w => by
    have : Instr.sameBits 10000 (u32 n) (u32 n) = true := by simp [Instr.sameBits]
    simp [Instr.keyThatStays, this]
   refine ⟨{ w with heap := w.heap.setIfInBounds b (.map (es.modify j fun x => { x with key := u32 n, val := v }) clock) }, by simp only [Instr.mapUpdate, Sem.run_bind, run_underlying hu, Result.andThen_ok, Sem.run_pure, Go.MapKept.run_getObj_map h1, run_checkKeyU hi, hf, hkey, hst, Go.MapKept.run_setObj_map _ h1], ⟨es.modify j fun x => { x with key := u32 n, val := v }, clock, by simp [hlt], ?_⟩, fun c hc => by simp [Array.getElem?_setIfInBounds, Ne.symm hc], rfl, rfl, rfl, by simp, Nat.le_refl _⟩
   have := put_es (v := v) h2 hj
   simpa using this
 obtain ⟨w', hrun, g1, g2, g3, g4, g5, g6, g7⟩ := hex
 have hexec : (execOp a.eval o).run P w = .ok .skip w' := by rcases ho with ho | ho <;> simp [execOp, ho, hr, hk', hv', hrun]
 unfold Oper.wp
 rw [hexec, Oper.upon_skip]
 refine hK _ _ ⟨fun _ _ => rfl, fun c hc hne => g2 c fun e => by subst e; exact hne h rfl hO, fun _ _ => rfl⟩ ⟨g3, g4, g5, by omega, fun c hc => g2 c (by omega), g7⟩ (poK_set hm hB hO g1 g2) (.u _)
theorem OpSt.delO {mt kt et b h : Nat} {m k : Operand} {F F' : HP} {ts : Array TypeId} {l : List (Int × Value)} {n : Int} (ho : o.op = .call { callee := .builtin .delete, args := #[m, k], argTypes := ts }) (hts : ts[0]? = some mt) (hx : opS e m = some (.d (.v (.map (some b))))) (hk : opS e k = some (.d (.v (u32 n))))
  (hF : F b = some (.m l)) (hu : P.underlying mt = some (.map kt et)) (hi : intU P kt = true) (hF' : updO F b (.m (delI l n)) = F') : OpSt P B o e h (poM F) (poM F') .u := by
 intro O H a w hBw hsl hm K hK
 subst hF'
 have hr := rep_v (hsl m (by simp [ho, Op.operands, Call.operands]) _ hx)
 have hk' := rep_v (hsl k (by simp [ho, Op.operands, Call.operands]) _ hk)
 obtain ⟨hB, hO, es, clock, h1, h2⟩ := hm b _ hF
 have hlt : b < w.heap.size := (Array.getElem?_eq_some_iff.1 h1).1
 have hf := run_findKeyU hi (n := n) h2 w
 have hex : ∃ w', (Builtin.delete_ ts o.type #[.map (some b), u32 n]).run P w = .ok (.tuple #[]) w' ∧ (OB.m (delI l n)).at w' b ∧ (∀ c, c ≠ b → w'.heap[c]? = w.heap[c]?) ∧ w'.os = w.os ∧ w'.tape = w.tape ∧ w'.output = w.output ∧ w.heap.size = w'.heap.size ∧ w.drawn ≤ w'.drawn := by
  cases hj : l.findIdx? (fun p => decide (p.1 = n)) with
  | none =>
   rw [hj] at hf
   refine ⟨{ w with heap := w.heap.setIfInBounds b (.map es clock) }, by simp only [Builtin.delete_, hts, Sem.run_bind, run_underlying hu, Result.andThen_ok, Sem.run_pure, List.getElem?_toArray, List.getElem?_cons_zero, List.getElem?_cons_succ, Go.MapKept.run_getObj_map h1, run_checkKeyU hi, hf, Option.bind_none, Go.MapKept.run_setObj_map _ h1], ⟨es, clock, by simp [hlt], by rw [del_no hj]; exact h2⟩, fun c hc => by simp [Array.getElem?_setIfInBounds, Ne.symm hc], rfl, rfl, rfl, by simp, Nat.le_refl _⟩
  | some j =>
   have hjl : j < l.length := (List.findIdx?_eq_some_iff_getElem.1 hj).1
   rw [hj] at hf
   simp only [Option.bind_some, List.getElem?_eq_getElem hjl, Option.map_some] at hf
   refine ⟨{ w with heap := w.heap.setIfInBounds b (.map (es.eraseIdxIfInBounds j) clock) }, by simp only [Builtin.delete_, hts, Sem.run_bind, run_underlying hu, Result.andThen_ok, Sem.run_pure, List.getElem?_toArray, List.getElem?_cons_zero, List.getElem?_cons_succ, Go.MapKept.run_getObj_map h1, run_checkKeyU hi, hf, Go.MapKept.run_setObj_map _ h1], ⟨es.eraseIdxIfInBounds j, clock, by simp [hlt], ?_⟩, fun c hc => by simp [Array.getElem?_setIfInBounds, Ne.symm hc], rfl, rfl, rfl, by simp, Nat.le_refl _⟩
   have hes : j < es.size := by have := congrArg List.length h2; simp at this; omega
   have := del_es h2 hj
   have e1 : (es.eraseIdxIfInBounds j).toList = es.toList.eraseIdx j := by rw [Array.eraseIdxIfInBounds_eq, dif_pos hes]; simp
   rw [e1]; exact this
 obtain ⟨w', hrun, g1, g2, g3, g4, g5, g6, g7⟩ := hex
 have hexec : (execOp a.eval o).run P w = .ok (.value (.tuple #[])) w' := by simp [execOp, ho, resolve, invoke, builtin, hr, hk', hrun]
 unfold Oper.wp
 rw [hexec, Oper.upon_value]
 refine hK _ _ ⟨fun _ _ => rfl, fun c hc hne => g2 c fun e => by subst e; exact hne h rfl hO, fun _ _ => rfl⟩ ⟨g3, g4, g5, by omega, fun c hc => g2 c (by omega), g7⟩ (poK_set hm hB hO g1 g2) (.u _)
end
end Go.Eng
end

section
namespace Go.Proofs.YtgophedpkiidkaaGreat
open Go.Eng
theorem mixed : Tryz.prog.follows .mixedOrders = true := by kernel_rfl
theorem by120 : Tryz.prog.bytesOf 120 = 16 := by kernel_rfl
theorem by150 : Tryz.prog.bytesOf 150 = 24 := by kernel_rfl
theorem by160 : Tryz.prog.bytesOf 160 = 8 := by kernel_rfl
theorem by22 : Tryz.prog.bytesOf 22 = 24 := by kernel_rfl
theorem by226 : Tryz.prog.bytesOf 226 = 32 := by kernel_rfl
theorem by3 : Tryz.prog.bytesOf 3 = 8 := by kernel_rfl
theorem by72 : Tryz.prog.bytesOf 72 = 4 := by kernel_rfl
theorem by75 : Tryz.prog.bytesOf 75 = 80 := by kernel_rfl
theorem by87 : Tryz.prog.bytesOf 87 = 16 := by kernel_rfl
theorem by89 : Tryz.prog.bytesOf 89 = 56 := by kernel_rfl
theorem by93 : Tryz.prog.bytesOf 93 = 24 := by kernel_rfl
theorem bye202 : Tryz.prog.bytesOf (Tryz.prog.elem 202) = 1 := by kernel_rfl
theorem bye22 : Tryz.prog.bytesOf (Tryz.prog.elem 22) = 8 := by kernel_rfl
theorem cv154_3 : cvk Tryz.prog 154 3 = some .i64 := by kernel_rfl
theorem cv3_154 : cvk Tryz.prog 3 154 = some .u64 := by kernel_rfl
theorem el118 : Tryz.prog.elem 118 = 120 := by kernel_rfl
theorem el124 : Tryz.prog.elem 124 = 150 := by kernel_rfl
theorem el157 : Tryz.prog.elem 157 = 160 := by kernel_rfl
theorem el173 : Tryz.prog.elem 173 = 226 := by kernel_rfl
theorem el202 : Tryz.prog.elem 202 = 4 := by kernel_rfl
theorem el22 : Tryz.prog.elem 22 = 3 := by kernel_rfl
theorem el23 : Tryz.prog.elem 23 = 87 := by kernel_rfl
theorem el24 : Tryz.prog.elem 24 = 89 := by kernel_rfl
theorem el37 : Tryz.prog.elem 37 = 22 := by kernel_rfl
theorem el41 : Tryz.prog.elem 41 = 75 := by kernel_rfl
theorem el52 : Tryz.prog.elem 52 = 93 := by kernel_rfl
theorem el67 : Tryz.prog.elem 67 = 72 := by kernel_rfl
theorem es118 : esz Tryz.prog 118 = some 2 := by kernel_rfl
theorem es124 : esz Tryz.prog 124 = some 4 := by kernel_rfl
theorem es157 : esz Tryz.prog 157 = some 1 := by kernel_rfl
theorem es173 : esz Tryz.prog 173 = some 2 := by kernel_rfl
theorem es202 : esz Tryz.prog 202 = some 1 := by kernel_rfl
theorem es22 : esz Tryz.prog 22 = some 1 := by kernel_rfl
theorem es23 : esz Tryz.prog 23 = some 2 := by kernel_rfl
theorem es24 : esz Tryz.prog 24 = some 3 := by kernel_rfl
theorem es27 : esz Tryz.prog 27 = some 1 := by kernel_rfl
theorem es37 : esz Tryz.prog 37 = some 1 := by kernel_rfl
theorem es41 : esz Tryz.prog 41 = some 4 := by kernel_rfl
theorem es52 : esz Tryz.prog 52 = some 3 := by kernel_rfl
theorem es67 : esz Tryz.prog 67 = some 1 := by kernel_rfl
theorem fo117_0 : fof Tryz.prog 117 0 = some 0 := by kernel_rfl
theorem fo117_1 : fof Tryz.prog 117 1 = some 1 := by kernel_rfl
theorem fo117_2 : fof Tryz.prog 117 2 = some 2 := by kernel_rfl
theorem fo120_0 : fof Tryz.prog 120 0 = some 0 := by kernel_rfl
theorem fo120_1 : fof Tryz.prog 120 1 = some 1 := by kernel_rfl
theorem fo126_0 : fof Tryz.prog 126 0 = some 0 := by kernel_rfl
theorem fo126_1 : fof Tryz.prog 126 1 = some 1 := by kernel_rfl
theorem fo126_2 : fof Tryz.prog 126 2 = some 2 := by kernel_rfl
theorem fo130_0 : fof Tryz.prog 130 0 = some 0 := by kernel_rfl
theorem fo130_1 : fof Tryz.prog 130 1 = some 1 := by kernel_rfl
theorem fo150_0 : fof Tryz.prog 150 0 = some 0 := by kernel_rfl
theorem fo150_1 : fof Tryz.prog 150 1 = some 1 := by kernel_rfl
theorem fo150_2 : fof Tryz.prog 150 2 = some 2 := by kernel_rfl
theorem fo150_3 : fof Tryz.prog 150 3 = some 3 := by kernel_rfl
theorem fo159_0 : fof Tryz.prog 159 0 = some 0 := by kernel_rfl
theorem fo159_1 : fof Tryz.prog 159 1 = some 1 := by kernel_rfl
theorem fo159_2 : fof Tryz.prog 159 2 = some 2 := by kernel_rfl
theorem fo163_0 : fof Tryz.prog 163 0 = some 0 := by kernel_rfl
theorem fo163_1 : fof Tryz.prog 163 1 = some 1 := by kernel_rfl
theorem fo163_2 : fof Tryz.prog 163 2 = some 2 := by kernel_rfl
theorem fo163_3 : fof Tryz.prog 163 3 = some 3 := by kernel_rfl
theorem fo224_0 : fof Tryz.prog 224 0 = some 0 := by kernel_rfl
theorem fo224_1 : fof Tryz.prog 224 1 = some 4 := by kernel_rfl
theorem fo224_2 : fof Tryz.prog 224 2 = some 5 := by kernel_rfl
theorem fo224_3 : fof Tryz.prog 224 3 = some 6 := by kernel_rfl
theorem fo226_0 : fof Tryz.prog 226 0 = some 0 := by kernel_rfl
theorem fo226_1 : fof Tryz.prog 226 1 = some 1 := by kernel_rfl
theorem fo26_0 : fof Tryz.prog 26 0 = some 0 := by kernel_rfl
theorem fo26_1 : fof Tryz.prog 26 1 = some 1 := by kernel_rfl
theorem fo26_2 : fof Tryz.prog 26 2 = some 2 := by kernel_rfl
theorem fo26_3 : fof Tryz.prog 26 3 = some 3 := by kernel_rfl
theorem fo32_0 : fof Tryz.prog 32 0 = some 0 := by kernel_rfl
theorem fo43_0 : fof Tryz.prog 43 0 = some 0 := by kernel_rfl
theorem fo43_1 : fof Tryz.prog 43 1 = some 1 := by kernel_rfl
theorem fo43_2 : fof Tryz.prog 43 2 = some 2 := by kernel_rfl
theorem fo43_3 : fof Tryz.prog 43 3 = some 3 := by kernel_rfl
theorem fo46_0 : fof Tryz.prog 46 0 = some 0 := by kernel_rfl
theorem fo46_1 : fof Tryz.prog 46 1 = some 1 := by kernel_rfl
theorem fo46_2 : fof Tryz.prog 46 2 = some 2 := by kernel_rfl
theorem fo54_0 : fof Tryz.prog 54 0 = some 0 := by kernel_rfl
theorem fo54_2 : fof Tryz.prog 54 2 = some 2 := by kernel_rfl
theorem fo54_4 : fof Tryz.prog 54 4 = some 4 := by kernel_rfl
theorem fo75_0 : fof Tryz.prog 75 0 = some 0 := by kernel_rfl
theorem fo75_1 : fof Tryz.prog 75 1 = some 1 := by kernel_rfl
theorem fo75_2 : fof Tryz.prog 75 2 = some 2 := by kernel_rfl
theorem fo75_3 : fof Tryz.prog 75 3 = some 3 := by kernel_rfl
theorem fo87_0 : fof Tryz.prog 87 0 = some 0 := by kernel_rfl
theorem fo87_1 : fof Tryz.prog 87 1 = some 1 := by kernel_rfl
theorem fo89_0 : fof Tryz.prog 89 0 = some 0 := by kernel_rfl
theorem fo89_1 : fof Tryz.prog 89 1 = some 1 := by kernel_rfl
theorem fo89_2 : fof Tryz.prog 89 2 = some 2 := by kernel_rfl
theorem io32 : intsOf Tryz.prog 32 2 = true := by kernel_rfl
theorem iu72 : intU Tryz.prog 72 = true := by kernel_rfl
theorem mt108 : Tryz.prog.underlying 108 = some (.map 72 118) := by kernel_rfl
theorem mt131 : Tryz.prog.underlying 131 = some (.map 72 130) := by kernel_rfl
theorem mt132 : Tryz.prog.underlying 132 = some (.map 72 134) := by kernel_rfl
theorem mt155 : Tryz.prog.underlying 155 = some (.map 72 160) := by kernel_rfl
theorem mt70 : Tryz.prog.underlying 70 = some (.map 72 3) := by kernel_rfl
theorem pl117 : places Tryz.prog 117 = some [(0, 1), (1, 1), (2, 1)] := by kernel_rfl
theorem pl120 : places Tryz.prog 120 = some [(0, 1), (1, 1)] := by kernel_rfl
theorem pl126 : places Tryz.prog 126 = some [(0, 1), (1, 1), (2, 1)] := by kernel_rfl
theorem pl130 : places Tryz.prog 130 = some [(0, 1), (1, 1)] := by kernel_rfl
theorem pl134 : places Tryz.prog 134 = some [] := by kernel_rfl
theorem pl150 : places Tryz.prog 150 = some [(0, 1), (1, 1), (2, 1), (3, 1)] := by kernel_rfl
theorem pl159 : places Tryz.prog 159 = some [(0, 1), (1, 1), (2, 1)] := by kernel_rfl
theorem pl163 : places Tryz.prog 163 = some [(0, 1), (1, 1), (2, 1), (3, 1)] := by kernel_rfl
theorem pl224 : places Tryz.prog 224 = some [(0, 4), (4, 1), (5, 1), (6, 1)] := by kernel_rfl
theorem pl226 : places Tryz.prog 226 = some [(0, 1), (1, 1)] := by kernel_rfl
theorem pl26 : places Tryz.prog 26 = some [(0, 1), (1, 1), (2, 1), (3, 1)] := by kernel_rfl
theorem pl32 : places Tryz.prog 32 = some [(0, 1), (1, 1)] := by kernel_rfl
theorem pl43 : places Tryz.prog 43 = some [(0, 1), (1, 1), (2, 1), (3, 1)] := by kernel_rfl
theorem pl46 : places Tryz.prog 46 = some [(0, 1), (1, 1), (2, 1), (3, 1)] := by kernel_rfl
theorem pl54 : places Tryz.prog 54 = some [(0, 1), (1, 1), (2, 1), (3, 1), (4, 1)] := by kernel_rfl
theorem pl75 : places Tryz.prog 75 = some [(0, 1), (1, 1), (2, 1), (3, 1)] := by kernel_rfl
theorem pl87 : places Tryz.prog 87 = some [(0, 1), (1, 1)] := by kernel_rfl
theorem pl89 : places Tryz.prog 89 = some [(0, 1), (1, 1), (2, 1)] := by kernel_rfl
theorem pl93 : places Tryz.prog 93 = some [(0, 1), (1, 1), (2, 1)] := by kernel_rfl
theorem vs108 : vsz Tryz.prog 108 = some (false, 1) := by kernel_rfl
theorem vs109 : vsz Tryz.prog 109 = some (false, 1) := by kernel_rfl
theorem vs117 : vsz Tryz.prog 117 = some (true, 3) := by kernel_rfl
theorem vs120 : vsz Tryz.prog 120 = some (true, 2) := by kernel_rfl
theorem vs124 : vsz Tryz.prog 124 = some (false, 1) := by kernel_rfl
theorem vs130 : vsz Tryz.prog 130 = some (true, 2) := by kernel_rfl
theorem vs131 : vsz Tryz.prog 131 = some (false, 1) := by kernel_rfl
theorem vs132 : vsz Tryz.prog 132 = some (false, 1) := by kernel_rfl
theorem vs134 : vsz Tryz.prog 134 = some (true, 0) := by kernel_rfl
theorem vs150 : vsz Tryz.prog 150 = some (true, 4) := by kernel_rfl
theorem vs155 : vsz Tryz.prog 155 = some (false, 1) := by kernel_rfl
theorem vs157 : vsz Tryz.prog 157 = some (false, 1) := by kernel_rfl
theorem vs160 : vsz Tryz.prog 160 = some (false, 1) := by kernel_rfl
theorem vs22 : vsz Tryz.prog 22 = some (false, 1) := by kernel_rfl
theorem vs226 : vsz Tryz.prog 226 = some (true, 2) := by kernel_rfl
theorem vs23 : vsz Tryz.prog 23 = some (false, 1) := by kernel_rfl
theorem vs24 : vsz Tryz.prog 24 = some (false, 1) := by kernel_rfl
theorem vs26 : vsz Tryz.prog 26 = some (true, 4) := by kernel_rfl
theorem vs3 : vsz Tryz.prog 3 = some (false, 1) := by kernel_rfl
theorem vs32 : vsz Tryz.prog 32 = some (true, 2) := by kernel_rfl
theorem vs37 : vsz Tryz.prog 37 = some (false, 1) := by kernel_rfl
theorem vs4 : vsz Tryz.prog 4 = some (false, 1) := by kernel_rfl
theorem vs41 : vsz Tryz.prog 41 = some (false, 1) := by kernel_rfl
theorem vs43 : vsz Tryz.prog 43 = some (true, 4) := by kernel_rfl
theorem vs46 : vsz Tryz.prog 46 = some (true, 4) := by kernel_rfl
theorem vs52 : vsz Tryz.prog 52 = some (false, 1) := by kernel_rfl
theorem vs54 : vsz Tryz.prog 54 = some (true, 5) := by kernel_rfl
theorem vs66 : vsz Tryz.prog 66 = some (false, 1) := by kernel_rfl
theorem vs67 : vsz Tryz.prog 67 = some (false, 1) := by kernel_rfl
theorem vs70 : vsz Tryz.prog 70 = some (false, 1) := by kernel_rfl
theorem vs72 : vsz Tryz.prog 72 = some (false, 1) := by kernel_rfl
theorem vs75 : vsz Tryz.prog 75 = some (true, 4) := by kernel_rfl
theorem vs79 : vsz Tryz.prog 79 = some (false, 1) := by kernel_rfl
theorem vs83 : vsz Tryz.prog 83 = some (false, 1) := by kernel_rfl
theorem vs87 : vsz Tryz.prog 87 = some (true, 2) := by kernel_rfl
theorem vs89 : vsz Tryz.prog 89 = some (true, 3) := by kernel_rfl
theorem zc108 : zcells Tryz.prog 108 = some [.map none] := by kernel_rfl
theorem zc109 : zcells Tryz.prog 109 = some [.pointer none] := by kernel_rfl
theorem zc117 : zcells Tryz.prog 117 = some [.int .i64 0, .int .i64 0, .int .u32 0] := by kernel_rfl
theorem zc120 : zcells Tryz.prog 120 = some [.int .u32 0, .int .i64 0] := by kernel_rfl
theorem zc126 : zcells Tryz.prog 126 = some [.int .u32 0, .int .u32 0, .slice none 0 0] := by kernel_rfl
theorem zc130 : zcells Tryz.prog 130 = some [.int .u32 0, .int .i64 0] := by kernel_rfl
theorem zc131 : zcells Tryz.prog 131 = some [.map none] := by kernel_rfl
theorem zc132 : zcells Tryz.prog 132 = some [.map none] := by kernel_rfl
theorem zc134 : zcells Tryz.prog 134 = some [] := by kernel_rfl
theorem zc150 : zcells Tryz.prog 150 = some [.int .u32 0, .int .u32 0, .int .u32 0, .int .i64 0] := by kernel_rfl
theorem zc159 : zcells Tryz.prog 159 = some [.slice none 0 0, .map none, .int .i64 0] := by kernel_rfl
theorem zc160 : zcells Tryz.prog 160 = some [.pointer none] := by kernel_rfl
theorem zc163 : zcells Tryz.prog 163 = some [.int .u32 0, .int .i64 0, .int .i64 0, .int .i64 0] := by kernel_rfl
theorem zc22 : zcells Tryz.prog 22 = some [.slice none 0 0] := by kernel_rfl
theorem zc224 : zcells Tryz.prog 224 = some [.int .i64 0, .slice none 0 0, .slice none 0 0, .slice none 0 0, .slice none 0 0, .slice none 0 0, .slice none 0 0] := by kernel_rfl
theorem zc226 : zcells Tryz.prog 226 = some [.slice none 0 0, .int .i64 0] := by kernel_rfl
theorem zc26 : zcells Tryz.prog 26 = some [.slice none 0 0, .slice none 0 0, .slice none 0 0, .slice none 0 0] := by kernel_rfl
theorem zc3 : zcells Tryz.prog 3 = some [.int .i64 0] := by kernel_rfl
theorem zc32 : zcells Tryz.prog 32 = some [.int .i64 0, .int .i64 0] := by kernel_rfl
theorem zc43 : zcells Tryz.prog 43 = some [.int .i64 0, .slice none 0 0, .slice none 0 0, .slice none 0 0] := by kernel_rfl
theorem zc46 : zcells Tryz.prog 46 = some [.bool false, .slice none 0 0, .int .i64 0, .int .i64 0] := by kernel_rfl
theorem zc54 : zcells Tryz.prog 54 = some [.int .i64 0, .int .i64 0, .slice none 0 0, .int .i64 0, .slice none 0 0] := by kernel_rfl
theorem zc67 : zcells Tryz.prog 67 = some [.slice none 0 0] := by kernel_rfl
theorem zc70 : zcells Tryz.prog 70 = some [.map none] := by kernel_rfl
theorem zc72 : zcells Tryz.prog 72 = some [.int .u32 0] := by kernel_rfl
theorem zc75 : zcells Tryz.prog 75 = some [.slice none 0 0, .slice none 0 0, .slice none 0 0, .int .i64 0] := by kernel_rfl
theorem zc83 : zcells Tryz.prog 83 = some [.nilFunc] := by kernel_rfl
theorem zc87 : zcells Tryz.prog 87 = some [.int .i64 0, .int .i64 0] := by kernel_rfl
theorem zc89 : zcells Tryz.prog 89 = some [.slice none 0 0, .slice none 0 0, .int .i64 0] := by kernel_rfl
theorem zc93 : zcells Tryz.prog 93 = some [.int .i64 0, .int .i64 0, .int .i64 0] := by kernel_rfl
theorem ze118 : zcells Tryz.prog (Tryz.prog.elem 118) = some [.int .u32 0, .int .i64 0] := by kernel_rfl
theorem ze124 : zcells Tryz.prog (Tryz.prog.elem 124) = some [.int .u32 0, .int .u32 0, .int .u32 0, .int .i64 0] := by kernel_rfl
theorem ze157 : zcells Tryz.prog (Tryz.prog.elem 157) = some [.pointer none] := by kernel_rfl
theorem ze173 : zcells Tryz.prog (Tryz.prog.elem 173) = some [.slice none 0 0, .int .i64 0] := by kernel_rfl
theorem ze202 : zcells Tryz.prog (Tryz.prog.elem 202) = some [.bool false] := by kernel_rfl
theorem ze22 : zcells Tryz.prog (Tryz.prog.elem 22) = some [.int .i64 0] := by kernel_rfl
theorem ze23 : zcells Tryz.prog (Tryz.prog.elem 23) = some [.int .i64 0, .int .i64 0] := by kernel_rfl
theorem ze24 : zcells Tryz.prog (Tryz.prog.elem 24) = some [.slice none 0 0, .slice none 0 0, .int .i64 0] := by kernel_rfl
theorem ze37 : zcells Tryz.prog (Tryz.prog.elem 37) = some [.slice none 0 0] := by kernel_rfl
theorem ze41 : zcells Tryz.prog (Tryz.prog.elem 41) = some [.slice none 0 0, .slice none 0 0, .slice none 0 0, .int .i64 0] := by kernel_rfl
theorem ze52 : zcells Tryz.prog (Tryz.prog.elem 52) = some [.int .i64 0, .int .i64 0, .int .i64 0] := by kernel_rfl
theorem ze67 : zcells Tryz.prog (Tryz.prog.elem 67) = some [.int .u32 0] := by kernel_rfl
theorem zw118 : (Tryz.prog.info? 118).bind (·.zero) = some (.slice none 0 0) := by kernel_rfl
theorem zw130 : (Tryz.prog.info? 130).bind (·.zero) = some (.agg #[.int .u32 0, .int .i64 0]) := by kernel_rfl
theorem zw134 : (Tryz.prog.info? 134).bind (·.zero) = some (.agg #[]) := by kernel_rfl
theorem zw160 : (Tryz.prog.info? 160).bind (·.zero) = some (.pointer none) := by kernel_rfl
theorem zw3 : (Tryz.prog.info? 3).bind (·.zero) = some (.int .i64 0) := by kernel_rfl
end Go.Proofs.YtgophedpkiidkaaGreat
end

section
namespace Go.Proofs.YtgophedpkiidkaaGreat
open Go.Eng
set_option maxRecDepth 10000
set_option maxHeartbeats 1000000
theorem slices_IndexFunc_int_int_does (l : List Int) (fn : Nat) (cs : List S) (p : Int → Bool) (hcs : Caught cs) (hf : ∀ x, x ∈ l → Does Tryz.prog false fn ([I x] ++ cs) (Bo (p x))) : Does Tryz.prog false 43 [.d (ints l), .f fn [] cs] (I (findI p l)) := by
 refine Does.of_body Tryz.func43 rfl rfl (by simp) Tryz.call43 (fun w0 O0 => ?_); refine .le 0 fun len0 => ?_; refine .g <| .r <| .a ?_; refine .sq <| .g <| .g <| .r <| .m ?_; refine .x (.n es22) ?_; refine .m ?_; refine .sq <| .k <| .loop (X := Nat) (fun k => k ≤ l.length ∧ ∀ j : Nat, j < k → p (nth l j) = false) (fun k => [(0, .d (ints l)), (1, .f fn [] cs), (7, I (l.length)), (8, I (k))]) (fun k => []) (fun k => l.length - k) 0 ⟨by omega, by simp⟩ ?_ ?_
 ·exact .p3 <| .slot rfl (Le.of_eq (by simp)) <| .nil
 ·rintro k ⟨hkl, hinv⟩
  refine .g <| .r <| .x (.b blss) ?_; refine .sq <| .g <| .cond rfl (fun c9 => ?_) (fun c9 => ?_)
  ·have hk : k < l.length := by simpa using c9
   refine .p <| .g <| .g <| .k <| .g <| .r <| .m ?_; refine .a ?_; refine .z <| .mm ?_; refine .m ?_; refine .x (.i es22) ?_; refine .x (.l1 vs3) ?_; refine .x (OpSem.call0 (hf _ (nth_mem (by omega) (by omega))) rfl rfl rfl (hcs.app rfl) (Les.refl _)) ?_; refine .sq <| .cond rfl (fun c16 => ?_) (fun c16 => ?_)
   ·refine .g <| .r <| .m ?_; refine .a ?_; exact .sq <| .t <| .k <| .t <| .t <| .k <| .t <| .ret rfl (.tmp rfl <| .nil) rfl (Le.i (findI_some hk hinv c16).symm)
   ·refine .p <| .n <| .y <| .x .ad ?_; refine .m ?_; refine .n <| .again (k + 1) ⟨by omega, all_succ hinv c16⟩ ?_ (by omega); exact .p3 <| .slot rfl (Le.of_eq (by simp)) <| .nil
  ·have hk : k = l.length := by simp at c9; omega
   refine .u <| .u <| .u <| .b <| .z <| .a ?_; exact .sq <| .t <| .ret rfl (.tmp rfl <| .nil) rfl (Le.i (by subst hk; exact (findI_none hinv).symm))
theorem slices_ContainsFunc_int_int_does (l : List Int) (fn : Nat) (cs : List S) (p : Int → Bool) (hcs : Caught cs) (hf : ∀ x, x ∈ l → Does Tryz.prog false fn ([I x] ++ cs) (Bo (p x))) : Does Tryz.prog false 21 [.d (ints l), .f fn [] cs] (Bo (l.any p)) := by
 refine Does.of_body Tryz.func21 rfl rfl (by simp) Tryz.call21 (fun w0 O0 => ?_); refine .le 0 fun len0 => ?_; refine .g <| .r <| .a ?_; refine .z <| .mm ?_; refine .x (OpSem.call0 (slices_IndexFunc_int_int_does l fn cs p hcs hf) rfl rfl rfl (hcs.arg rfl) (Les.refl _)) ?_; refine .x (.b bgeq) ?_; refine .a ?_; exact .sq <| .t <| .ret rfl (.tmp rfl <| .nil) rfl (Le.bo findI_any)
theorem slices_IndexFunc_Assign_Assign_does (l : List Asg) (fn : Nat) (cs : List S) (p : Asg → Bool) (hcs : Caught cs) (hf : ∀ x, x ∈ l → Does Tryz.prog false fn ([asgS x] ++ cs) (Bo (p x))) : Does Tryz.prog false 124 [.d (asgs l), .f fn [] cs] (I (findI p l)) := by
 refine Does.of_body Tryz.func124 rfl rfl (by simp) Tryz.call124 (fun w0 O0 => ?_); refine .le 0 fun len0 => ?_; refine .g <| .r <| .a ?_; refine .sq <| .g <| .g <| .r <| .m ?_; refine .x (.n es23) ?_; refine .m ?_; refine .sq <| .k <| .loop (X := Nat) (fun k => k ≤ l.length ∧ ∀ j : Nat, j < k → p (nth l j) = false) (fun k => [(0, .d (asgs l)), (1, .f fn [] cs), (7, I (l.length)), (8, I (k))]) (fun k => []) (fun k => l.length - k) 0 ⟨by omega, by simp⟩ ?_ ?_
 ·exact .p3 <| .slot rfl (Le.of_eq (by simp)) <| .nil
 ·rintro k ⟨hkl, hinv⟩
  refine .g <| .r <| .x (.b blss) ?_; refine .sq <| .g <| .cond rfl (fun c9 => ?_) (fun c9 => ?_)
  ·have hk : k < l.length := by simpa using c9
   refine .p <| .g <| .g <| .k <| .g <| .r <| .m ?_; refine .a ?_; refine .z <| .mm ?_; refine .m ?_; refine .x (.i es23) ?_; refine .x (.lN vs87) ?_; refine .x (OpSem.call0 (hf _ (nth_mem (by omega) (by omega))) rfl rfl rfl (hcs.app rfl) (Les.refl _)) ?_; refine .sq <| .cond rfl (fun c16 => ?_) (fun c16 => ?_)
   ·refine .g <| .r <| .m ?_; refine .a ?_; exact .sq <| .t <| .k <| .t <| .t <| .k <| .t <| .ret rfl (.tmp rfl <| .nil) rfl (Le.i (findI_some hk hinv c16).symm)
   ·refine .p <| .n <| .y <| .x .ad ?_; refine .m ?_; refine .n <| .again (k + 1) ⟨by omega, all_succ hinv c16⟩ ?_ (by omega); exact .p3 <| .slot rfl (Le.of_eq (by simp)) <| .nil
  ·have hk : k = l.length := by simp at c9; omega
   refine .u <| .u <| .u <| .b <| .z <| .a ?_; exact .sq <| .t <| .ret rfl (.tmp rfl <| .nil) rfl (Le.i (by subst hk; exact (findI_none hinv).symm))
theorem slices_ContainsFunc_Assign_Assign_does (l : List Asg) (fn : Nat) (cs : List S) (p : Asg → Bool) (hcs : Caught cs) (hf : ∀ x, x ∈ l → Does Tryz.prog false fn ([asgS x] ++ cs) (Bo (p x))) : Does Tryz.prog false 94 [.d (asgs l), .f fn [] cs] (Bo (l.any p)) := by
 refine Does.of_body Tryz.func94 rfl rfl (by simp) Tryz.call94 (fun w0 O0 => ?_); refine .le 0 fun len0 => ?_; refine .g <| .r <| .a ?_; refine .z <| .mm ?_; refine .x (OpSem.call0 (slices_IndexFunc_Assign_Assign_does l fn cs p hcs hf) rfl rfl rfl (hcs.arg rfl) (Les.refl _)) ?_; refine .x (.b bgeq) ?_; refine .a ?_; exact .sq <| .t <| .ret rfl (.tmp rfl <| .nil) rfl (Le.bo findI_any)
theorem multi_Validate_1_does (n : Int) : Does Tryz.prog false 70 [I (n)] (Bo (decide (n < 1 ∨ 6 < n))) := by
 refine Does.of_body Tryz.func70 rfl rfl (by simp) Tryz.call70 (fun w0 O0 => ?_); refine .g <| .r <| .a ?_; refine .z <| .m ?_; refine .x (.b blss) ?_; refine .m ?_; refine .split (n := 5) rfl (fun c5 => ?_) (fun c5 => ?_)
 ·refine .hf c5 ?_; refine .hf c5 ?_; refine .x (OpSem.pickT rfl rfl c5 rfl) ?_; refine .a ?_; exact .sq <| .t <| .ret rfl (.tmp rfl <| .nil) rfl (Le.bo (by simp at *; omega))
 ·refine .ht c5 ?_; refine .m ?_; refine .ht c5 ?_; refine .x (.b bgtr) ?_; refine .x (OpSem.pickF rfl rfl c5 rfl) ?_; refine .a ?_; exact .sq <| .t <| .ret rfl (.tmp rfl <| .nil) rfl (Le.bo (by simp at *; omega))
theorem multi_IsState_does (m : Multi) (s : List Int) : Does Tryz.prog false 40 [multi m, .d (ints s)] (Bo (isState m.sizes s)) := by
 refine Does.of_body Tryz.func40 rfl rfl (by simp) Tryz.call40 (fun w0 O0 => ?_); refine .lg 0 0 fun len0_0 => ?_; refine .lg 0 1 fun len0_1 => ?_; refine .lg 0 2 fun len0_2 => ?_; refine .lg 0 3 fun len0_3 => ?_; refine .le 1 fun len1 => ?_; refine .g <| .r <| .bx 2 ?_; refine .a ?_; refine .sq <| .g <| .g <| .r <| .m ?_; refine .x (.n es22) ?_; refine .x (.f fo26_0) ?_; refine .x (.l vs22) ?_; refine .x (.n es22) ?_; refine .x (.b bneq) ?_; refine .sq <| .cond rfl (fun c12 => ?_) (fun c12 => ?_)
 ·refine .g <| .r <| .a ?_; exact .sq <| .t <| .t <| .ret rfl (.tmp rfl <| .nil) rfl (Le.bo (isState_false (fun h => by simp at c12; have := h.1; omega)))
 ·have hl : s.length = m.sizes.length := by simp at c12; omega
  refine .p <| .g <| .g <| .g <| .r <| .m ?_; refine .x (.n es22) ?_; refine .m ?_; refine .sq <| .k <| .loop (X := Nat) (fun k => k ≤ s.length ∧ ∀ v : Nat, v < k → 0 ≤ nth s v ∧ nth s v < nth m.sizes v) (fun k => [(2, .r 2 0), (13, .d (ints s)), (14, I (s.length)), (15, I (k))]) (fun k => [(2, .box [.d (ints m.sizes), .d (ints m.init), .d (asgs m.goal), .d (opsD m.ops)])]) (fun k => s.length - k) 0 ⟨by omega, by simp⟩ ?_ ?_
  ·exact .p3 <| .slot rfl (Le.of_eq (by simp)) <| .mem rfl <| .nil
  ·rintro k ⟨hkl, hinv⟩
   refine .g <| .r <| .x (.b blss) ?_; refine .sq <| .g <| .cond rfl (fun c16 => ?_) (fun c16 => ?_)
   ·have hk : k < s.length := by simpa using c16
    refine .p <| .g <| .g <| .k <| .g <| .r <| .m ?_; refine .x (.i es22) ?_; refine .x (.l1 vs3) ?_; refine .a ?_; refine .a ?_; refine .z <| .m ?_; refine .x (.b blss) ?_; refine .m ?_; refine .split (n := 22) rfl (fun c22 => ?_) (fun c22 => ?_)
    ·refine .hf c22 ?_; refine .hf c22 ?_; refine .hf c22 ?_; refine .hf c22 ?_; refine .hf c22 ?_; refine .hf c22 ?_; refine .hf c22 ?_; refine .x (OpSem.pickT rfl rfl c22 rfl) ?_; refine .sq <| .condT rfl rfl ?_; refine .g <| .r <| .a ?_; exact .sq <| .t <| .k <| .t <| .t <| .k <| .t <| .ret rfl (.tmp rfl <| .nil) rfl (Le.bo (isState_false (fun h => by have := h.2 k hk; simp at c22; omega)))
    ·refine .ht c22 ?_; refine .m ?_; refine .ht c22 ?_; refine .x (.f fo26_0) ?_; refine .ht c22 ?_; refine .x (.l vs22) ?_; refine .ht c22 ?_; refine .m ?_; refine .ht c22 ?_; refine .x (.i es22) ?_; refine .ht c22 ?_; refine .x (.l1 vs3) ?_; refine .ht c22 ?_; refine .x (.b bgeq) ?_; refine .x (OpSem.pickF rfl rfl c22 rfl) ?_; refine .sq <| .cond rfl (fun c30 => ?_) (fun c30 => ?_)
     ·refine .g <| .r <| .a ?_; exact .sq <| .t <| .k <| .t <| .t <| .k <| .t <| .ret rfl (.tmp rfl <| .nil) rfl (Le.bo (isState_false (fun h => by have := h.2 k hk; simp at c30; omega)))
     ·refine .p <| .n <| .y <| .x .ad ?_; refine .m ?_; refine .n ?_
      have hb : 0 ≤ nth s k ∧ nth s k < nth m.sizes k := by simp at c22 c30; omega
      refine .again (k + 1) ⟨by omega, all_succ hinv hb⟩ ?_ (by omega); exact .p3 <| .slot rfl (Le.of_eq (by simp)) <| .mem rfl <| .nil
   ·have hk : k = s.length := by simp at c16; omega
    refine .u <| .u <| .u <| .b <| .z <| .a ?_; exact .sq <| .t <| .ret rfl (.tmp rfl <| .nil) rfl (Le.bo (by subst hk; exact isState_true ⟨hl, hinv⟩))
theorem multi_assigns_does (m : Multi) (l : List Asg) : Does Tryz.prog false 71 [multi m, .d (asgs l)] (Bo (assigns m.sizes l)) := by
 refine Does.of_body Tryz.func71 rfl rfl (by simp) Tryz.call71 (fun w0 O0 => ?_); refine .lg 0 0 fun len0_0 => ?_; refine .lg 0 1 fun len0_1 => ?_; refine .lg 0 2 fun len0_2 => ?_; refine .lg 0 3 fun len0_3 => ?_; refine .le 1 fun len1 => ?_; refine .g <| .r <| .bx 2 ?_; refine .a ?_; refine .sq <| .g <| .g <| .r <| .m ?_; refine .x (.n es23) ?_; refine .m ?_; refine .sq <| .k <| .loop (X := Nat) (fun k => k ≤ l.length ∧ ∀ i : Nat, i < k → AsgOk m.sizes l i) (fun k => [(1, .d (asgs l)), (2, .r 2 0), (7, .d (asgs l)), (8, I (l.length)), (9, I (k))]) (fun k => [(2, .box [.d (ints m.sizes), .d (ints m.init), .d (asgs m.goal), .d (opsD m.ops)])]) (fun k => l.length - k) 0 ⟨by omega, by simp⟩ ?_ ?_
 ·exact .p3 <| .sl <| .slot rfl (Le.of_eq (by simp)) <| .mem rfl <| .nil
 ·rintro k ⟨hkl, hinv⟩
  refine .g <| .r <| .x (.b blss) ?_; refine .sq <| .g <| .cond rfl (fun c10 => ?_) (fun c10 => ?_)
  ·have hk : k < l.length := by simpa using c10
   refine .p <| .g <| .g <| .k <| .g <| .r <| .m ?_; refine .x (.i es23) ?_; refine .x (.lN vs87) ?_; refine .al 6 zc87 ?_; refine .a ?_; refine .sb vs87 ?_; refine .sq <| .g <| PC.start [] ?_; refine .x (.f fo87_0) ?_; refine .x (.l vs3) ?_; refine .x (.b blss) ?_; refine .m ?_; refine .split (n := 17) rfl (fun c17 => ?_) (fun c17 => ?_)
   ·refine .hf c17 ?_; refine .hf c17 ?_; refine .hf c17 ?_; refine .hf c17 ?_; refine .hf c17 ?_; refine .hf c17 ?_; refine .x (OpSem.pickT rfl rfl c17 rfl) ?_; refine .m ?_; refine .hf rfl ?_; refine .hf rfl ?_; refine .hf rfl ?_; refine .x (OpSem.pickT rfl rfl rfl rfl) ?_; refine .m ?_; refine .hf rfl ?_; refine .hf rfl ?_; refine .hf rfl ?_; refine .hf rfl ?_; refine .hf rfl ?_; refine .hf rfl ?_; refine .hf rfl ?_; refine .hf rfl ?_; refine .hf rfl ?_; refine .x (OpSem.pickT rfl rfl rfl rfl) ?_; refine .m ?_; refine .hf rfl ?_; refine .hf rfl ?_; refine .hf rfl ?_; refine .gU rfl rfl rfl rfl rfl ?_; refine .gU rfl rfl rfl rfl rfl ?_; refine .gU rfl rfl rfl rfl rfl ?_; refine .gU rfl rfl rfl rfl rfl ?_; refine .gU rfl rfl rfl rfl rfl ?_; refine .gU rfl rfl rfl rfl rfl ?_; refine .gU rfl rfl rfl rfl rfl ?_; refine .gU rfl rfl rfl rfl rfl ?_; refine .d0 mixed ?_; refine .gu ?_; refine .hf rfl ?_; refine .x (OpSem.pickT rfl rfl rfl rfl) ?_; refine .sq <| .condT rfl rfl ?_; refine .g <| .r <| .a ?_; exact .sq <| .t <| .k <| .t <| .t <| .k <| .t <| .ret rfl (.tmp rfl <| .nil) rfl (Le.bo (assigns_false k hk (fun hb => by simp at *; omega)))
   ·refine .ht (.f fo87_0) c17 ?_; refine .ht (.l vs3) c17 ?_; refine .ht (.f fo26_0) c17 ?_; refine .ht (.l vs22) c17 ?_; refine .ht (.n es22) c17 ?_; refine .ht (.b bgeq) c17 ?_; refine .x (OpSem.pickF rfl rfl c17 rfl) ?_; refine .m ?_; refine .split (n := 25) rfl (fun c25 => ?_) (fun c25 => ?_)
    ·refine .hf c25 ?_; refine .hf c25 ?_; refine .hf c25 ?_; refine .x (OpSem.pickT rfl rfl c25 rfl) ?_; refine .m ?_; refine .hf rfl ?_; refine .hf rfl ?_; refine .hf rfl ?_; refine .hf rfl ?_; refine .hf rfl ?_; refine .hf rfl ?_; refine .hf rfl ?_; refine .hf rfl ?_; refine .hf rfl ?_; refine .x (OpSem.pickT rfl rfl rfl rfl) ?_; refine .m ?_; refine .hf rfl ?_; refine .hf rfl ?_; refine .hf rfl ?_; refine .gU rfl rfl rfl rfl rfl ?_; refine .gU rfl rfl rfl rfl rfl ?_; refine .gU rfl rfl rfl rfl rfl ?_; refine .gU rfl rfl rfl rfl rfl ?_; refine .gU rfl rfl rfl rfl rfl ?_; refine .gU rfl rfl rfl rfl rfl ?_; refine .gU rfl rfl rfl rfl rfl ?_; refine .gU rfl rfl rfl rfl rfl ?_; refine .d0 mixed ?_; refine .gu ?_; refine .hf rfl ?_; refine .x (OpSem.pickT rfl rfl rfl rfl) ?_; refine .sq <| .condT rfl rfl ?_; refine .g <| .r <| .a ?_; exact .sq <| .t <| .k <| .t <| .t <| .k <| .t <| .ret rfl (.tmp rfl <| .nil) rfl (Le.bo (assigns_false k hk (fun hb => by simp at *; omega)))
    ·refine .ht (.f fo87_1) c25 ?_; refine .ht (.l vs3) c25 ?_; refine .ht (.b blss) c25 ?_; refine .x (OpSem.pickF rfl rfl c25 rfl) ?_; refine .m ?_; refine .split (n := 30) rfl (fun c30 => ?_) (fun c30 => ?_)
     ·refine .hf c30 ?_; refine .hf c30 ?_; refine .hf c30 ?_; refine .hf c30 ?_; refine .hf c30 ?_; refine .hf c30 ?_; refine .hf c30 ?_; refine .hf c30 ?_; refine .hf c30 ?_; refine .x (OpSem.pickT rfl rfl c30 rfl) ?_; refine .m ?_; refine .hf rfl ?_; refine .hf rfl ?_; refine .hf rfl ?_; refine .gU rfl rfl rfl rfl rfl ?_; refine .gU rfl rfl rfl rfl rfl ?_; refine .gU rfl rfl rfl rfl rfl ?_; refine .gU rfl rfl rfl rfl rfl ?_; refine .gU rfl rfl rfl rfl rfl ?_; refine .gU rfl rfl rfl rfl rfl ?_; refine .gU rfl rfl rfl rfl rfl ?_; refine .gU rfl rfl rfl rfl rfl ?_; refine .d0 mixed ?_; refine .gu ?_; refine .hf rfl ?_; refine .x (OpSem.pickT rfl rfl rfl rfl) ?_; refine .sq <| .condT rfl rfl ?_; refine .g <| .r <| .a ?_; exact .sq <| .t <| .k <| .t <| .t <| .k <| .t <| .ret rfl (.tmp rfl <| .nil) rfl (Le.bo (assigns_false k hk (fun hb => by simp at *; omega)))
     ·refine .ht (.f fo87_1) c30 ?_; refine .ht (.l vs3) c30 ?_; refine .ht (.f fo26_0) c30 ?_; refine .ht (.l vs22) c30 ?_; refine .ht (.f fo87_0) c30 ?_; refine .ht (.l vs3) c30 ?_; refine .ht (OpSem.idxL rfl rfl rfl es22 (by simp at *; omega) (by simp at *; omega)) c30 ?_; refine .ht (.l1 vs3) c30 ?_; refine .ht (.b bgeq) c30 ?_; refine .x (OpSem.pickF rfl rfl c30 rfl) ?_; refine .m ?_; refine .split (n := 41) rfl (fun c41 => ?_) (fun c41 => ?_)
      ·refine .hf c41 ?_; refine .hf c41 ?_; refine .hf c41 ?_; refine .gU rfl rfl rfl rfl rfl ?_; refine .gU rfl rfl rfl rfl rfl ?_; refine .gU rfl rfl rfl rfl rfl ?_; refine .gU rfl rfl rfl rfl rfl ?_; refine .gU rfl rfl rfl rfl rfl ?_; refine .gU rfl rfl rfl rfl rfl ?_; refine .gU rfl rfl rfl rfl rfl ?_; refine .gU rfl rfl rfl rfl rfl ?_; refine .d0 mixed ?_; refine .gu ?_; refine .hf c41 ?_; refine .x (OpSem.pickT rfl rfl c41 rfl) ?_; refine .sq <| .condT rfl rfl ?_; refine .g <| .r <| .a ?_; exact .sq <| .t <| .k <| .t <| .t <| .k <| .t <| .ret rfl (.tmp rfl <| .nil) rfl (Le.bo (assigns_false k hk (fun hb => by simp at *; omega)))
      ·refine .ht (OpSem.move (.inl rfl) rfl) c41 ?_; refine .ht (.b bgtr) c41 ?_; refine .ht (OpSem.move (.inl rfl) rfl) c41 ?_; refine .split (n := 44) rfl (fun c44 => ?_) (fun c44 => ?_)
       ·refine .gt (.f fo87_0) c44 ?_; refine .gt (.l vs3) c44 ?_; refine .gt (OpSem.move (.inl rfl) rfl) c44 ?_; refine .gt (OpSem.move (.inl rfl) rfl) c44 ?_; refine .gt .su c44 ?_; refine .gt (OpSem.idxL rfl rfl rfl es23 (by simp at c44; omega) (by omega)) c44 ?_; refine .gt (OpSem.fieldp rfl rfl fo87_0) c44 ?_; refine .gt (.l1 vs3) c44 ?_; refine .d0 mixed ?_; refine .gt c44 ?_; refine .x (.b bleq) ?_; refine .ht c41 ?_; refine .x (OpSem.pickT rfl rfl c44 rfl) ?_; refine .x (OpSem.pickF rfl rfl c41 rfl) ?_; refine .sq <| .cond rfl (fun c55 => ?_) (fun c55 => ?_)
        ·refine .g <| .r <| .a ?_; exact .sq <| .t <| .k <| .t <| .t <| .k <| .t <| .ret rfl (.tmp rfl <| .nil) rfl (Le.bo (assigns_false k hk (fun hb => by simp at *; omega)))
        ·refine .p <| .n <| .y <| .x .ad ?_; refine .m ?_; refine .n ?_
         have hb : AsgOk m.sizes l k := by simp at *; omega
         refine .again (k + 1) ⟨by omega, all_succ hinv hb⟩ ?_ (by omega); exact .p3 <| .sl <| .slot rfl (Le.of_eq (by simp)) <| .mem rfl <| .nil
       ·refine .gf c44 ?_; refine .gf c44 ?_; refine .gf c44 ?_; refine .gf c44 ?_; refine .gf c44 ?_; refine .gf c44 ?_; refine .gf c44 ?_; refine .gf c44 ?_; refine .d0 mixed ?_; refine .gf c44 ?_; refine .ht c41 ?_; refine .x (OpSem.pickF rfl rfl c44 rfl) ?_; refine .x (OpSem.pickF rfl rfl c41 rfl) ?_; refine .sq <| .condF rfl rfl ?_; refine .p <| .n <| .y <| .x .ad ?_; refine .m ?_; refine .n ?_
        have hb : AsgOk m.sizes l k := by simp at *; omega
        refine .again (k + 1) ⟨by omega, all_succ hinv hb⟩ ?_ (by omega); exact .p3 <| .sl <| .slot rfl (Le.of_eq (by simp)) <| .mem rfl <| .nil
  ·have hk : k = l.length := by simp at c10; omega
   refine .u <| .u <| .u <| .b <| .z <| .a ?_; exact .sq <| .t <| .ret rfl (.tmp rfl <| .nil) rfl (Le.bo (by subst hk; exact assigns_true hinv))
theorem multi_Validate_does (m : Multi) : Does Tryz.prog false 36 [multi m] (flt (validate m)) := by
 refine Does.of_body Tryz.func36 rfl rfl (by simp) Tryz.call36 (fun w0 O0 => ?_); refine .lg 0 0 fun len0_0 => ?_; refine .lg 0 1 fun len0_1 => ?_; refine .lg 0 2 fun len0_2 => ?_; refine .lg 0 3 fun len0_3 => ?_; refine .g <| .r <| .bx 1 ?_; refine .al 2 zc32 ?_; refine .z <| .a ?_; refine .sq <| .g <| .k <| .g <| .r <| .x (.f fo26_0) ?_; refine .x (.l vs22) ?_; refine .x (.n es22) ?_; refine .x (.b beql) ?_; refine .m ?_; refine .split (n := 11) rfl (fun c11 => ?_) (fun c11 => ?_)
 ·refine .hf c11 ?_; refine .hf c11 ?_; refine .hf c11 ?_; refine .hf c11 ?_; refine .x (OpSem.pickT rfl rfl c11 rfl) ?_; refine .a ?_; refine .sq <| .condT rfl rfl ?_; refine .g <| .r <| .x (.bd pl32 zc32) ?_; refine .sb vs32 ?_; exact .sq <| .t <| .k <| .t <| .ret rfl (.cellN rfl rfl vs32 <| .nil) rfl (Le.flt (validate_1 (.inl (by simp only [decide_eq_true_eq] at c11; omega))))
 ·refine .ht c11 ?_; refine .x (.f fo26_0) ?_; refine .ht c11 ?_; refine .x (.l vs22) ?_; refine .ht c11 ?_; refine .x (.n es22) ?_; refine .ht c11 ?_; refine .x (.b bgtr) ?_; refine .x (OpSem.pickF rfl rfl c11 rfl) ?_; refine .a ?_; refine .sq <| .cond rfl (fun c6 => ?_) (fun c6 => ?_)
  ·refine .g <| .r <| .x (.bd pl32 zc32) ?_; refine .sb vs32 ?_; exact .sq <| .t <| .k <| .t <| .ret rfl (.cellN rfl rfl vs32 <| .nil) rfl (Le.flt (validate_1 (.inr (by simp at c6; omega))))
  ·refine .g <| .r ?_
   have h1 : ¬ (m.sizes.length = 0 ∨ 8 < m.sizes.length) := by simp only [decide_eq_false_iff_not] at c11 c6; omega
   refine .x (.f fo26_0) ?_; refine .x (.l vs22) ?_; refine .m ?_; refine .x (OpSem.call0 (slices_ContainsFunc_int_int_does m.sizes 70 [] (fun n => decide (n < 1 ∨ 6 < n)) (fun n hn => rfl) (fun x _ => multi_Validate_1_does x)) rfl rfl rfl rfl (Les.refl _)) ?_; refine .a ?_; refine .sq <| .cond rfl (fun c18 => ?_) (fun c18 => ?_)
   ·refine .g <| .r <| .x (.bd pl32 zc32) ?_; refine .sb vs32 ?_; exact .sq <| .t <| .k <| .t <| .ret rfl (.cellN rfl rfl vs32 <| .nil) rfl (Le.flt (validate_2 h1 (sizes_any' c18)))
   ·have h2 := sizes_any c18
    refine .g <| .r <| .x (.L vs26) ?_; refine .x (.f fo26_1) ?_; refine .x (.l vs22) ?_; refine .x (OpSem.call0 (multi_IsState_does ..) rfl rfl rfl rfl (Les.refl _)) ?_; refine .x .nt ?_; refine .a ?_; refine .sq <| .cond rfl (fun c24 => ?_) (fun c24 => ?_)
    ·refine .g <| .r <| .x (.bd pl32 zc32) ?_; refine .sb vs32 ?_; exact .sq <| .t <| .k <| .t <| .ret rfl (.cellN rfl rfl vs32 <| .nil) rfl (Le.flt (validate_3 h1 h2 (by simpa using c24)))
    ·have h3 : isState m.sizes m.init = true := by simpa using c24
     refine .g <| .r <| .x (.L vs26) ?_; refine .x (.f fo26_2) ?_; refine .x (.l vs23) ?_; refine .x (OpSem.call0 (multi_assigns_does ..) rfl rfl rfl rfl (Les.refl _)) ?_; refine .x .nt ?_; refine .a ?_; refine .sq <| .cond rfl (fun c31 => ?_) (fun c31 => ?_)
     ·refine .g <| .r <| .x (.bd pl32 zc32) ?_; refine .sb vs32 ?_; exact .sq <| .t <| .k <| .t <| .ret rfl (.cellN rfl rfl vs32 <| .nil) rfl (Le.flt (validate_4 h1 h2 h3 (by simpa using c31)))
     ·have h4 : assigns m.sizes m.goal = true := by simpa using c31
      refine .g <| .r <| .x (.f fo26_3) ?_; refine .x (.l vs24) ?_; refine .x (.n es24) ?_; refine .x (.b bgtr) ?_; refine .a ?_; refine .sq <| .cond rfl (fun c38 => ?_) (fun c38 => ?_)
      ·refine .g <| .r <| .x (.bd pl32 zc32) ?_; refine .sb vs32 ?_; exact .sq <| .t <| .k <| .t <| .ret rfl (.cellN rfl rfl vs32 <| .nil) rfl (Le.flt (validate_5 h1 h2 h3 h4 (by simp at c38; omega)))
      ·have h5 : ¬ 40 < m.ops.length := by simp at c38; omega
       refine .p <| .n <| .g <| .g <| .g <| .r <| .x (.f fo26_3) ?_; refine .x (.l vs24) ?_; refine .x (.n es24) ?_; refine .m ?_; refine .sq <| .k <| .loop (X := Nat) (fun k => k ≤ m.ops.length ∧ ∀ j : Nat, j < k → opFault m j = (0, 0)) (fun k => [(1, .r 1 0), (2, .r 2 0), (45, .d (opsD m.ops)), (46, I (m.ops.length)), (47, I (k))]) (fun k => [(1, .box [.d (ints m.sizes), .d (ints m.init), .d (asgs m.goal), .d (opsD m.ops)]), (2, .box [I (0), I (0)])]) (fun k => m.ops.length - k) 0 ⟨by omega, by simp⟩ ?_ ?_
       ·exact .p3 <| .sl <| .slot rfl (Le.of_eq (by simp)) <| .all
       ·rintro k ⟨hkl, hinv⟩
        refine .g <| .r <| .x (.b blss) ?_; refine .sq <| .g <| .cond rfl (fun c48 => ?_) (fun c48 => ?_)
        ·have hk : k < m.ops.length := by simpa using c48
         refine .p <| .g <| .g <| .k <| .g <| .r <| .m ?_; refine .x (.i es24) ?_; refine .x (.lN vs89) ?_; refine .al 5 zc89 ?_; refine .a ?_; refine .sb vs89 ?_; refine .sq <| .k <| .g <| .r <| .x (.L vs26) ?_; refine .x (.f fo89_0) ?_; refine .x (.l vs23) ?_; refine .x (OpSem.call0 (multi_assigns_does ..) rfl rfl rfl rfl (Les.refl _)) ?_; refine .x .nt ?_; refine .m ?_; refine .split (n := 58) rfl (fun c58 => ?_) (fun c58 => ?_)
         ·refine .hf c58 ?_; refine .hf c58 ?_; refine .hf c58 ?_; refine .hf c58 ?_; refine .hf c58 ?_; refine .x (OpSem.pickT rfl rfl c58 rfl) ?_; refine .a ?_; refine .sq <| .condT rfl rfl ?_; refine .g <| .r <| .m ?_; refine .x (.bd pl32 zc32) ?_; refine .sb vs32 ?_; exact .sq <| .t <| .k <| .k <| .t <| .t <| .k <| .t <| .ret rfl (.cellN rfl rfl vs32 <| .nil) rfl (Le.flt (validate_7 h1 h2 h3 h4 h5 hk hinv (opFault_5 (by simp at c58; simp [c58])) (by simp)))
         ·refine .ht c58 ?_; refine .x (.L vs26) ?_; refine .ht c58 ?_; refine .x (.f fo89_1) ?_; refine .ht c58 ?_; refine .x (.l vs23) ?_; refine .ht c58 ?_; refine .x (OpSem.call0 (multi_assigns_does ..) rfl rfl rfl rfl (Les.refl _)) ?_; refine .ht c58 ?_; refine .x .nt ?_; refine .x (OpSem.pickF rfl rfl c58 rfl) ?_; refine .a ?_; refine .sq <| .cond rfl (fun c52 => ?_) (fun c52 => ?_)
          ·refine .g <| .r <| .m ?_; refine .x (.bd pl32 zc32) ?_; refine .sb vs32 ?_; exact .sq <| .t <| .k <| .k <| .t <| .t <| .k <| .t <| .ret rfl (.cellN rfl rfl vs32 <| .nil) rfl (Le.flt (validate_7 h1 h2 h3 h4 h5 hk hinv (opFault_5 (by simp at c52; simp [c52])) (by simp)))
          ·have ha : assigns m.sizes (nth m.ops k).pre = true ∧ assigns m.sizes (nth m.ops k).post = true := by simp at c58 c52; exact ⟨c58, c52⟩
           refine .g <| .r <| .x (.f fo89_2) ?_; refine .x (.l vs3) ?_; refine .x (.b blss) ?_; refine .m ?_; refine .split (n := 71) rfl (fun c71 => ?_) (fun c71 => ?_)
           ·refine .hf c71 ?_; refine .hf c71 ?_; refine .hf c71 ?_; refine .x (OpSem.pickT rfl rfl c71 rfl) ?_; refine .a ?_; refine .sq <| .condT rfl rfl ?_; refine .g <| .r <| .m ?_; refine .x (.bd pl32 zc32) ?_; refine .sb vs32 ?_; exact .sq <| .t <| .k <| .k <| .t <| .t <| .k <| .t <| .ret rfl (.cellN rfl rfl vs32 <| .nil) rfl (Le.flt (validate_7 h1 h2 h3 h4 h5 hk hinv (opFault_3 ha (by simp at c71; omega)) (by simp)))
           ·refine .ht c71 ?_; refine .x (.f fo89_2) ?_; refine .ht c71 ?_; refine .x (.l vs3) ?_; refine .ht c71 ?_; refine .x (.b bgtr) ?_; refine .x (OpSem.pickF rfl rfl c71 rfl) ?_; refine .a ?_; refine .sq <| .cond rfl (fun c67 => ?_) (fun c67 => ?_)
            ·refine .g <| .r <| .m ?_; refine .x (.bd pl32 zc32) ?_; refine .sb vs32 ?_; exact .sq <| .t <| .k <| .k <| .t <| .t <| .k <| .t <| .ret rfl (.cellN rfl rfl vs32 <| .nil) rfl (Le.flt (validate_7 h1 h2 h3 h4 h5 hk hinv (opFault_3 ha (by simp at c67; omega)) (by simp)))
            ·have hb := opFault_0 ha (by simp at c71 c67; omega)
             refine .p <| .n <| .n <| .y <| .x .ad ?_; refine .m ?_; refine .n <| .again (k + 1) ⟨by omega, all_succ hinv hb⟩ ?_ (by omega); exact .p3 <| .sl <| .slot rfl (Le.of_eq (by simp)) <| .all
        ·have hk : k = m.ops.length := by simp at c48; omega
         refine .u <| .u <| .u <| .b <| .z <| .x (.bd pl32 zc32) ?_; refine .sb vs32 ?_; exact .sq <| .t <| .ret rfl (.cellN rfl rfl vs32 <| .nil) rfl (Le.flt (by subst hk; exact validate_8 h1 h2 h3 h4 h5 hinv))
theorem multi_StateFault_does (m : Multi) (s : List Int) : Does Tryz.prog false 17 [multi m, .d (ints s)] (flt (stateFault m s)) := by
 refine Does.of_body Tryz.func17 rfl rfl (by simp) Tryz.call17 (fun w0 O0 => ?_); refine .lg 0 0 fun len0_0 => ?_; refine .lg 0 1 fun len0_1 => ?_; refine .lg 0 2 fun len0_2 => ?_; refine .lg 0 3 fun len0_3 => ?_; refine .le 1 fun len1 => ?_; refine .g <| .r <| .bx 2 ?_; refine .al 4 zc32 ?_; refine .sq <| .g <| .g <| .r <| .x (.L vs26) ?_; refine .x (OpSem.call0 (multi_Validate_does ..) rfl rfl rfl rfl (Les.refl _)) ?_; refine .al 5 zc32 ?_; refine .sb vs32 ?_; refine .z <| .x (.L vs32) ?_; refine .x (.bd pl32 zc32) ?_; refine .x (OpSem.neS2 rfl rfl rfl io32) ?_; refine .sq <| .cond rfl (fun c10 => ?_) (fun c10 => ?_)
 ·have h0 : ¬ ((validate m).1 = 0 ∧ (validate m).2 = 0) := fun h => by simp [h.1, h.2] at c10
  refine .g <| .r <| .x (.L vs32) ?_; refine .sb vs32 ?_; exact .sq <| .t <| .t <| .ret rfl (.cellN rfl rfl vs32 <| .nil) rfl (Le.flt (stateFault_1 h0))
 ·have h0 : (validate m).1 = 0 ∧ (validate m).2 = 0 := by simpa using c10
  refine .p <| .g <| .g <| .g <| .r <| .x (.L vs26) ?_; refine .m ?_; refine .x (OpSem.call0 (multi_IsState_does ..) rfl rfl rfl rfl (Les.refl _)) ?_; refine .x .nt ?_; refine .sq <| .cond rfl (fun c15 => ?_) (fun c15 => ?_)
  ·refine .g <| .r <| .x (.bd pl32 zc32) ?_; refine .sb vs32 ?_; exact .sq <| .t <| .t <| .ret rfl (.cellN rfl rfl vs32 <| .nil) rfl (Le.flt (stateFault_2 h0 (by simpa using c15)))
  ·refine .p <| .z <| .x (.bd pl32 zc32) ?_; refine .sb vs32 ?_; exact .sq <| .t <| .ret rfl (.cellN rfl rfl vs32 <| .nil) rfl (Le.flt (stateFault_3 h0 (by simpa using c15)))
end Go.Proofs.YtgophedpkiidkaaGreat
end
