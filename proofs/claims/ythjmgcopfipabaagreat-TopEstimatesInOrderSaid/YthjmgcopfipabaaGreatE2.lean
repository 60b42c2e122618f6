/- Part 2. -/
import Derived.Test.YthjmgcopfipabaaGreatE1
import Derived.ChangeKeysEq
import Derived.MapKept
import Derived.WideKeyRuns
import Derived.Carry
import Derived.KernelRfl
import Derived.Test.YthjmgcopfipabaaGreatProg
import Derived.Shelf.SlSortCmp.NoneTotal
import Derived.Shelf.SortM.Plain
import Derived.Shelf.SortM.SortNone
set_option linter.unusedSimpArgs false
set_option linter.unnecessarySimpa false
set_option linter.unusedVariables false
set_option linter.unusedSectionVars false
section
namespace Go.Eng
open Go.RowKit (Below)
section
variable {P : Program} {B : Nat} {o : Oper} {e : Env} {M : Mem}
end
def fzb (h : Nat) (f : Nat → S) : Nat → S → S
 | 0, _ => .u
 | n + 1, s => match s with
  | .r h' k => bif Nat.beq h' h then f k else .r h' k
  | .o h' => bif Nat.beq h' h then .u else .o h'
  | .q h' a b c => bif Nat.beq h' h then .u else .q h' a b c
  | .w h' a b c => bif Nat.beq h' h then .u else .w h' a b c
  | .g cs => .g (cs.map (fzb h f n))
  | .t cs => .t (cs.map (fzb h f n))
  | .f fn fs cs => .f fn (fs.map (fzb h f n)) (cs.map (fzb h f n))
  | s => s
theorem fzb_rep {O O' : Nat → Nat} {H : Nat → Value} {w : World} {h : Nat} {f : Nat → S} (hk : Keeps O w O' w) (hf : ∀ (x : Value) (k : Nat), RepS O H w x (.r h k) → RepS O' H w x (f k)) : ∀ (n : Nat) (x : Value) (s : S), RepS O H w x s → RepS O' H w x (fzb h f n s)
 | 0, x, _, _ => .u x
 | n + 1, x, s, hr => by
  have hr' := hr
  cases hr with
  | d x y hh => exact hr'.keeps hk
  | g xs ss hl h1 hg =>
   refine .g xs _ (by simpa using hl) h1 fun i x s hx hs => ?_
   simp only [List.getElem?_map, Option.map_eq_some_iff] at hs
   obtain ⟨s', hs', rfl⟩ := hs
   exact fzb_rep hk hf n x s' (hg i x s' hx hs')
  | p => exact hr'.keeps hk
  | r h' b k hH =>
   simp only [fzb]
   cases hb : Nat.beq h' h with
   | true => have := Nat.eq_of_beq_eq_true hb; subst this; exact hf _ _ hr'
   | false => exact hr'.keeps hk
  | o h' h1 =>
   simp only [fzb]
   cases hb : Nat.beq h' h with
   | true => exact .u _
   | false => exact hr'.keeps hk
  | q h' b k i j len cap hH =>
   simp only [fzb]
   cases hb : Nat.beq h' h with
   | true => exact .u _
   | false => exact hr'.keeps hk
  | t xs ss hl hg =>
   refine .t xs _ (by simpa using hl) fun i x s hx hs => ?_
   simp only [List.getElem?_map, Option.map_eq_some_iff] at hs
   obtain ⟨s', hs', rfl⟩ := hs
   exact fzb_rep hk hf n x s' (hg i x s' hx hs')
  | f fn xs ys fs cs hl hl' hg hg' =>
   refine .f fn xs ys _ _ (by simpa using hl) (by simpa using hl') (fun i x s hx hs => ?_) (fun i x s hx hs => ?_)
   ·simp only [List.getElem?_map, Option.map_eq_some_iff] at hs
    obtain ⟨s', hs', rfl⟩ := hs
    exact fzb_rep hk hf n x s' (hg i x s' hx hs')
   ·simp only [List.getElem?_map, Option.map_eq_some_iff] at hs
    obtain ⟨s', hs', rfl⟩ := hs
    exact fzb_rep hk hf n x s' (hg' i x s' hx hs')
  | c => exact hr'.keeps hk
  | w h' b k lo len L C hH hl =>
   simp only [fzb]
   cases hb : Nat.beq h' h with
   | true => exact .u _
   | false => exact hr'.keeps hk
  | a => exact hr'.keeps hk
  | u => exact .u _
def Mo.fzb (h : Nat) (f : Nat → S) : Mo → Mo
 | .box cs => .box (cs.map (Go.Eng.fzb h f 9))
 | m => m
def fzbE (h : Nat) (f : Nat → S) (e : Env) : Env := e.map fun p => (p.1, fzb h f 9 p.2)
def fzbM (h : Nat) (f : Nat → S) (M : Mem) : Mem := M.map fun p => (p.1, bif Nat.beq p.1 h then .gone else p.2.fzb h f)
section
variable {P : Program} {N : Nat} {w0 : World} {O0 : Nat → Nat} {Q : Post} {e : Env} {M : Mem}
theorem St.freezeR {O : Nat → Nat} {H : Nat → Value} {a : Act} {w : World} {h : Nat} {cs : List S} {f : Nat → S} (hM : look M h = some (.box cs)) (hst : St N w0 O0 e M O H a w)
  (hf : ∀ b, H h = .pointer (some ⟨b, 0, none⟩) → w0.heap.size ≤ b → O b = h + 1 → MHold O H w0.heap.size w h (.box cs) → ∀ O', (∀ c, O' c = if c = b then 0 else O c) → ∀ (k : Nat), RepS O' H w (.pointer (some ⟨b, k, none⟩)) (f k)) :
  ∃ O', St N w0 O0 (fzbE h f e) (fzbM h f M) O' H a w := by
 have hmh := hst.mem h _ hM
 have hmh' := hmh
 obtain ⟨b, xs, T, hH, hB, hO, hb, hsz, hc⟩ := hmh
 obtain ⟨O', hO'⟩ : ∃ O' : Nat → Nat, O' = fun c => if c = b then 0 else O c := ⟨_, rfl⟩
 have hO'' : ∀ c, O' c = if c = b then 0 else O c := fun c => by rw [hO']
 have hk : Keeps O w O' w := fun c _ h0 => ⟨by rw [hO'']; split; rfl; exact h0, rfl⟩
 have hff := hf b hH hB hO hmh' O' hO''
 have hr : ∀ (n : Nat) (x : Value) (s : S), RepS O H w x s → RepS O' H w x (fzb h f n s) := fzb_rep hk fun x k hr => by
  cases hr with
  | r h' b' k hH' =>
   rw [hH] at hH'
   simp only [Value.pointer.injEq, Option.some.injEq, Addr.mk.injEq, and_true] at hH'
   subst hH'
   exact hff k
 refine ⟨O', hst.df, hst.sz, hst.bl, fun c hc' => ?_, fun n s hs => ?_, fun n m hm => ?_⟩
 ·rw [hO'', if_neg (by omega)]; exact hst.lab c hc'
 ·unfold fzbE at hs
  rw [look_map (fun _ v => fzb h f 9 v)] at hs
  obtain ⟨s', hs', rfl⟩ := Option.map_eq_some_iff.1 hs
  obtain ⟨x, hx, hrep⟩ := hst.slots n s' hs'
  exact ⟨x, hx, hr 9 x s' hrep⟩
 ·unfold fzbM at hm
  rw [look_map (fun (k : Nat) (v : Mo) => bif Nat.beq k h then Mo.gone else Mo.fzb h f v)] at hm
  obtain ⟨m', hm', rfl⟩ := Option.map_eq_some_iff.1 hm
  cases hbq : Nat.beq n h with
  | true => simp [MHold]
  | false =>
   have hne : n ≠ h := fun e => by subst e; simp at hbq
   simp only [cond_false]
   have hold := hst.mem n m' hm'
   cases m' with
   | gone => trivial
   | fr K => exact K.mono _ _ _ _ _ hk hold
   | any K => exact K.mono _ _ _ _ _ _ _ (fun b1 hb1 hO1 => ⟨hO1.elim (fun h0 => (hk b1 hb1 h0).1.trans h0.symm) (fun h1 => by rw [hO'', if_neg (fun e => by subst e; rw [hO] at h1; omega)]), rfl⟩) hold
   | box cs' =>
    obtain ⟨b1, xs1, T1, g1, g2, g3, g4, g5, g6⟩ := hold
    refine ⟨b1, xs1, T1, g1, g2, ?_, g4, by simpa [Mo.fzb] using g5, fun i s hi => ?_⟩
    ·rw [hO'', if_neg (fun e => by subst e; rw [hO] at g3; omega)]; exact g3
    ·simp only [List.getElem?_map, Option.map_eq_some_iff] at hi
     obtain ⟨s', hs', rfl⟩ := hi
     obtain ⟨x, hx, hrep, ho⟩ := g6 i s' hs'
     exact ⟨x, hx, hr 9 x s' hrep, ho⟩
   | own k T1 rows =>
    rcases hold with ⟨g1, g2⟩ | ⟨b1, cap, xs1, g1, g2, g3, g4, g5, g6, g7, g8, g9⟩
    ·exact .inl ⟨g1, g2⟩
    ·refine .inr ⟨b1, cap, xs1, g1, g2, ?_, g4, g5, g6, g7, g8, fun i r j d hi hj => ?_⟩
     ·rw [hO'', if_neg (fun e => by subst e; rw [hO] at g3; omega)]; exact g3
     ·obtain ⟨x, hx, hrep, ho⟩ := g9 i r j d hi hj
      exact ⟨x, hx, hrep.mono hk, ho⟩
theorem Tr.freezeR {c : Code} (h : Nat) {cs : List S} {ds : List D} (hM : look M h = some (.box cs)) (hd : cs.mapM S.toD = some ds) (hc : Tr P N w0 O0 (fzbE h (fun k => .p (ds.drop k)) e) (fzbM h (fun k => .p (ds.drop k)) M) c Q) : Tr P N w0 O0 e M c Q := by
 intro O H a w hst
 obtain ⟨O', hst'⟩ := hst.freezeR (f := fun k => .p (ds.drop k)) hM (fun b hH hB hO hm O' hO' k => by
  obtain ⟨b', xs, T, hH', hB', hO2, hb, hsz, hcc⟩ := hm
  rw [hH] at hH'
  simp only [Value.pointer.injEq, Option.some.injEq, Addr.mk.injEq, and_true] at hH'
  subst hH'
  obtain ⟨m1, m2⟩ := mapM_some hd
  have hkk : Keeps O w O' w := fun c _ h0 => ⟨by rw [hO']; split; rfl; exact h0, rfl⟩
  have key : ∀ (j : Nat) (d : D), ds[j]? = some d → ∃ x, xs[j]? = some x ∧ RepD O w x d := fun j d hj => by
   have hlt : j < cs.length := by rw [← m1]; exact (List.getElem?_eq_some_iff.1 hj).1
   have h1 := m2 j _ d (List.getElem?_eq_getElem hlt) hj
   obtain ⟨x, hx, hr, _⟩ := hcc j _ (List.getElem?_eq_getElem hlt)
   generalize cs[j] = s at h1 hr
   cases s <;> simp [S.toD] at h1
   subst h1
   cases hr with
   | d _ _ q => exact ⟨x, hx, q⟩
  refine .p b k (ds.drop k) (fun j => (xs[k + j]?).getD undef) (fun j d _ => by rw [hO', if_pos rfl]) (fun j d hj => ?_) (fun j d hj => ?_)
  ·rw [List.getElem?_drop] at hj
   obtain ⟨x, hx, _⟩ := key (k + j) d hj
   rw [hx]; exact cellOf hb hx
  ·rw [List.getElem?_drop] at hj
   obtain ⟨x, hx, hr⟩ := key (k + j) d hj
   rw [hx]; exact hr.mono hkk)
 exact hc O' H a w hst'
end
end Go.Eng
namespace Go.Eng
open Go.RowKit (Below)
section
variable {P : Program} {B : Nat} {o : Oper} {e : Env} {M : Mem} {s : S}
theorem OpSem.idxw {t k h lo len : Nat} {x i : Operand} {kk : IntKind} {n : Int} (ho : o.op = .indexAddr t x i) (hx : opS e x = some (.w h k lo len)) (hi : opS e i = some (.d (.v (.int kk n))))
  (ht : esz P t = some k) (h0 : 0 ≤ n) (h1 : n < len) : OpSem P B o e M (.q h k (lo + n.toNat) 0) none :=
 .value fun O H a w hs hm => by
  have hx' := hs x (by simp [ho, Op.operands]) _ hx
  have hi' := hs i (by simp [ho, Op.operands]) _ hi
  generalize hv : a.eval x = v at hx'
  generalize hu : a.eval i = u at hi'
  cases hi' with
  | d _ _ hi' =>
   cases hi' with
   | v _ =>
    cases hx' with
    | w h b k lo len L C hH hl =>
     refine ⟨.pointer (some ⟨b, (lo + n.toNat) * k + 0, none⟩), ?_, .q h b k (lo + n.toNat) 0 L C hH⟩
     have := run_idx (P := P) (b := b) (off := lo * k) (cap := C - lo) (kk := kk) ht h0 h1 w
     have e1 : lo * k + n.toNat * k = (lo + n.toNat) * k + 0 := by rw [Nat.add_mul]; rfl
     rw [e1] at this
     simp [execOp, ho, hv, hu, this]
theorem OpSem.lenw {x : Operand} {t k h lo len : Nat} (ho : o.op = .call { callee := .builtin .len, args := #[x], argTypes := #[t] }) (hx : opS e x = some (.w h k lo len)) (ht : esz P t = some k) :
  OpSem P B o e M (.d (.v (.int .i64 len))) none :=
 .value fun O H a w hs hm => by
  have hx' := hs x (by simp [ho, Op.operands, Call.operands]) _ hx
  generalize hv : a.eval x = v at hx'
  cases hx' with
  | w h b k lo len L C hH hl =>
   exact ⟨_, by simp [execOp, ho, resolve, invoke, builtin, hv, run_len_slice w t _ _ _ _ (esz_spec ht).1, goInt], .d _ _ (.v _)⟩
theorem OpSem.loadqN {t : TypeId} {x : Operand} {h k T i : Nat} {rows : List (List D)} {r : List D} (ho : o.op = .load t x) (hx : opS e x = some (.q h k i 0)) (hM : look M h = some (.own k T rows))
  (ht : vsz P t = some (true, k)) (hi : rows[i]? = some r) : OpSem P B o e M (.g (r.map .d)) none :=
 .value fun O H a w hs hm => by
  have hr := hs x (by simp [ho, Op.operands]) _ hx
  generalize hv : a.eval x = v at hr
  cases hr with
  | q h b k i j len cap hH =>
   rcases hm h _ hM with ⟨h0, _⟩ | ⟨b', cap', xs, hH', _, _, hb, _, _, hsz, hw, hc⟩
   ·rw [h0] at hH; cases hH
   ·rw [hH] at hH'
    simp only [Value.slice.injEq, Option.some.injEq, Addr.mk.injEq, and_true] at hH'
    obtain ⟨rfl, _, _⟩ := hH'
    have hrk : r.length = k := hw r (List.mem_of_getElem? hi)
    have key : ∀ j, j < k → ∃ x d, r[j]? = some d ∧ xs[i * k + j]? = some x ∧ RepD O w x d ∧ x.oneCell' = true := fun j hj => by
     have hd := List.getElem?_eq_getElem (l := r) (i := j) (by omega)
     obtain ⟨x, h1, h2, h3⟩ := hc i r j _ hi hd
     exact ⟨x, _, hd, h1, h2, h3⟩
    have hl : ((xs.toList.drop (i * k)).take k).length = k := by
     have : k = 0 ∨ i * k + k ≤ xs.size := by
      by_cases hk0 : k = 0
      ·exact .inl hk0
      ·obtain ⟨x, d, _, h1, _⟩ := key (k - 1) (by omega)
       have := (Array.getElem?_eq_some_iff.1 h1).1
       exact .inr (by omega)
     rcases this with h | h
     ·simp [h]
     ·simp; omega
    refine ⟨.agg ((xs.toList.drop (i * k)).take k).toArray, ?_, .g _ _ (by simp [hl, hrk]) (fun z hz => ?_) (fun j z s hz hs => ?_)⟩
    ·have := run_loadVarN (P := P) (t := t) (xs := (xs.toList.drop (i * k)).take k) (by rw [hl]; exact ht) (w := w) (b := b) (off := i * k + 0) (fun j v hj => by
      have hjn : j < k := by have := (List.getElem?_eq_some_iff.1 hj).1; omega
      rw [List.getElem?_take_of_lt hjn, List.getElem?_drop] at hj
      exact cellOf hb (by simpa using hj))
     simp only [execOp, ho, Instr.loadAt, Instr.sureAddr, hv]
     simp only [Sem.run_bind, Sem.run_pure, Result.andThen_ok, this]
    ·obtain ⟨j, hj⟩ := List.getElem?_of_mem hz
     have hjn : j < k := by have := (List.getElem?_eq_some_iff.1 hj).1; omega
     rw [List.getElem?_take_of_lt hjn, List.getElem?_drop] at hj
     obtain ⟨y, d, _, hy, _, h1⟩ := key j hjn
     have : z = y := by simpa [hy] using hj.symm
     rw [this]; exact h1
    ·have hjn : j < k := by have := (List.getElem?_eq_some_iff.1 hz).1; omega
     rw [List.getElem?_take_of_lt hjn, List.getElem?_drop] at hz
     obtain ⟨y, d, hd, hy, hr, _⟩ := key j hjn
     have : z = y := by simpa [hy] using hz.symm
     rw [this]
     rw [List.getElem?_map, hd] at hs
     simp at hs
     subst hs
     exact .d _ _ hr
theorem MHold.setCells {O : Nat → Nat} {H : Nat → Value} {w : World} {h k T b cap lo : Nat} {xs : Array Value} {rows new : List (List D)} {vs : List Value} (hH : H h = .slice (some ⟨b, 0, none⟩) rows.length cap) (hB : B ≤ b) (hO : O b = h + 1) (hb : w.heap[b]? = some (.cells xs T (0, 0))) (hlc : rows.length ≤ cap) (hcm : cap ≤ maxLen) (hsz : xs.size = cap * k)
  (hw : ∀ r, r ∈ rows → r.length = k) (hc : ∀ (i : Nat) (r : List D) (j : Nat) (d : D), rows[i]? = some r → r[j]? = some d → ∃ x, xs[i * k + j]? = some x ∧ RepD O w x d ∧ x.oneCell' = true)
  (hlen : lo + new.length ≤ rows.length) (hvs : vs.length = new.length * k) (hnw : ∀ r, r ∈ new → r.length = k)
  (hn : ∀ (i : Nat) (r : List D) (j : Nat) (d : D), new[i]? = some r → r[j]? = some d → ∃ x, vs[i * k + j]? = some x ∧ RepD O w x d ∧ x.oneCell' = true) (hone : ∀ v, v ∈ vs → v.oneCell' = true) :
  Keep (some h) none O H w O H (w.setRow b (xs.toList.take (lo * k) ++ vs ++ xs.toList.drop (lo * k + vs.length)).toArray) ∧ Below B w (w.setRow b (xs.toList.take (lo * k) ++ vs ++ xs.toList.drop (lo * k + vs.length)).toArray) ∧
   MHold O H B (w.setRow b (xs.toList.take (lo * k) ++ vs ++ xs.toList.drop (lo * k + vs.length)).toArray) h (.own k T (rows.take lo ++ new ++ rows.drop (lo + new.length))) := by
 have hk' := Keep.setRow (O := O) (H := H) (w := w) (cs := (xs.toList.take (lo * k) ++ vs ++ xs.toList.drop (lo * k + vs.length)).toArray) hO
 have hfit : lo * k + vs.length ≤ xs.size := by
  rw [hvs, hsz, ← Nat.add_mul]
  exact Nat.mul_le_mul_right k (by omega)
 have hln : (rows.take lo ++ new ++ rows.drop (lo + new.length)).length = rows.length := by simp; omega
 refine ⟨hk', Below.setRow hB, .inr ⟨b, cap, _, by rw [hln]; exact hH, hB, hO, setRow_heap w b xs _ T _ hb, by rw [hln]; exact hlc, hcm, ?_, fun r hr => ?_, fun i r j d hi hj => ?_⟩⟩
 ·simp only [List.size_toArray, List.length_append, List.length_take, List.length_drop, Array.length_toList]
  rw [← hsz]; omega
 ·simp only [List.mem_append] at hr
  rcases hr with (hr | hr) | hr
  ·exact hw r (List.mem_of_mem_take hr)
  ·exact hnw r hr
  ·exact hw r (List.mem_of_mem_drop hr)
 ·have hrl : r.length = k := by
   have hr := List.mem_of_getElem? hi
   simp only [List.mem_append] at hr
   rcases hr with (hr | hr) | hr
   ·exact hw r (List.mem_of_mem_take hr)
   ·exact hnw r hr
   ·exact hw r (List.mem_of_mem_drop hr)
  have hjk : j < k := by rw [← hrl]; exact (List.getElem?_eq_some_iff.1 hj).1
  have hkeep : Keeps O w O (w.setRow b (xs.toList.take (lo * k) ++ vs ++ xs.toList.drop (lo * k + vs.length)).toArray) := hk'.keeps
  by_cases h1 : i < lo
  ·have hi' : rows[i]? = some r := by
    rw [List.append_assoc, List.getElem?_append_left (by simp; omega), List.getElem?_take_of_lt h1] at hi
    exact hi
   obtain ⟨x, hx, hr, ho⟩ := hc i r j d hi' hj
   refine ⟨x, ?_, hr.mono hkeep, ho⟩
   have hlt : i * k + j < lo * k := by
    have := Nat.mul_le_mul_right k (show i + 1 ≤ lo by omega)
    rw [Nat.add_mul] at this
    omega
   have hb2 : i * k + j < xs.size := by omega
   simp only [List.getElem?_toArray]
   rw [List.append_assoc, List.getElem?_append_left (by simp; omega), List.getElem?_take_of_lt hlt]
   simpa using hx
  ·by_cases h2 : i < lo + new.length
   ·have hi' : new[i - lo]? = some r := by
     rw [List.append_assoc, List.getElem?_append_right (by simp; omega), List.getElem?_append_left (by simp; omega)] at hi
     rw [← hi]; congr 1; simp; omega
    obtain ⟨x, hx, hr, ho⟩ := hn (i - lo) r j d hi' hj
    refine ⟨x, ?_, hr.mono hkeep, ho⟩
    have e1 : i * k + j = lo * k + ((i - lo) * k + j) := by
     rw [← Nat.add_assoc, ← Nat.add_mul]; congr 2; omega
    simp only [List.getElem?_toArray]
    have hxl := (List.getElem?_eq_some_iff.1 hx).1
    rw [e1, List.append_assoc, List.getElem?_append_right (by simp; omega), List.getElem?_append_left (by simp; omega)]
    rw [← hx]; congr 1; simp; omega
   ·have hi' : rows[i]? = some r := by
     rw [List.getElem?_append_right (by simp; omega), List.getElem?_drop] at hi
     rw [← hi]; congr 1; simp; omega
    obtain ⟨x, hx, hr, ho⟩ := hc i r j d hi' hj
    refine ⟨x, ?_, hr.mono hkeep, ho⟩
    have hge : lo * k + vs.length ≤ i * k + j := by
     have := Nat.mul_le_mul_right k (show lo + new.length ≤ i by omega)
     rw [Nat.add_mul] at this
     omega
    simp only [List.getElem?_toArray]
    rw [List.getElem?_append_right (by simp; omega), List.getElem?_drop]
    have e2 : lo * k + vs.length + (i * k + j - (List.take (lo * k) xs.toList ++ vs).length) = i * k + j := by simp; omega
    rw [e2]
    simpa using hx
theorem zeroFlat {zs : List Value} {k : Nat} (hzk : zs.length = k) : ∀ n, (List.range (n * k)).map (fun i => zs.toArray[i % k]!) = (List.replicate n zs).flatten
 | 0 => by simp
 | n + 1 => by
  rw [List.replicate_succ, List.flatten_cons, Nat.succ_mul, Nat.add_comm, List.range_add, List.map_append, List.map_map]
  congr 1
  ·apply List.ext_getElem?
   intro i
   by_cases hi : i < k
   ·simp [hi, hzk, getElem!_def, List.getElem?_eq_getElem (by omega : i < zs.length), Nat.mod_eq_of_lt hi]
   ·rw [List.getElem?_eq_none (by simp; omega), List.getElem?_eq_none (by omega)]
  ·rw [← zeroFlat hzk n]
   apply List.map_congr_left
   intro i _
   simp
theorem OpSt.clearW {t k T h lo len : Nat} {x : Operand} {rows : List (List D)} {zs : List Value} (ho : o.op = .call { callee := .builtin .clear, args := #[x], argTypes := #[t] }) (hx : opS e x = some (.w h k lo len)) (ht : esz P t = some k)
  (hz : zcells P (P.elem t) = some zs) (h1 : zs.all Value.oneCell' = true) (hzk : zs.length = k) (hk0 : 0 < k) (hlen : lo + len ≤ rows.length) :
  OpSt P B o e h (.own k T rows) (.own k T (rows.take lo ++ List.replicate len (zs.map .v) ++ rows.drop (lo + len))) (.t []) := by
 intro O H a w hB hs hm K hK
 have hx' := hs x (by simp [ho, Op.operands, Call.operands]) _ hx
 generalize hv : a.eval x = v at hx'
 cases hx' with
 | w h b k lo len L C hH hl =>
  have hrunE : (execOp a.eval o).run P w = ((Builtin.clear_ #[t] o.type #[.slice (some ⟨b, lo * k, none⟩) len (C - lo)]).run P w).andThen fun v w' => .ok (.value v) w' := by
   simp [execOp, ho, resolve, invoke, builtin, hv]
  have hrt : RepS O H w (.tuple #[]) (.t []) := .t [] [] rfl (fun i x s h => by simp at h)
  rcases hm with ⟨h0, rfl⟩ | ⟨b', cap, xs, hH', hBb, hO, hb, hlc, hcm, hsz, hw, hc⟩
  ·rw [h0] at hH; cases hH
  ·rw [hH] at hH'
   simp only [Value.slice.injEq, Option.some.injEq, Addr.mk.injEq, and_true] at hH'
   obtain ⟨rfl, rfl, rfl⟩ := hH'
   unfold Oper.wp
   rw [hrunE]
   by_cases hl0 : len = 0
   ·subst hl0
    have : (Builtin.clear_ #[t] o.type #[.slice (some ⟨b, lo * k, none⟩) 0 (C - lo)]).run P w = .ok (.tuple #[]) w := by
     simp [Builtin.clear_, run_underlying (esz_spec ht).1]
    rw [this]
    refine hK w _ (.refl _ _ _ _ _) (.refl _ _) ?_ hrt
    simp only [List.replicate_zero, List.append_nil, Nat.add_zero, List.take_append_drop]
    exact .inr ⟨b, C, xs, hH, hBb, hO, hb, hlc, hcm, hsz, hw, hc⟩
   ·obtain ⟨z, hz1, hz2⟩ := run_zero hz w
    have hzc : (Builtin.zeroCells z.cells len).toList = (List.replicate len zs).flatten := by
     rw [hz2]
     unfold Builtin.zeroCells
     simp only [Array.toList_map, Array.toList_range, List.size_toArray]
     rw [hzk]
     exact zeroFlat hzk len
    have hz0 := List.all_eq_true.1 h1
    have hflen : ∀ n, ((List.replicate n zs).flatten).length = n * k := fun n => by simp [hzk]
    have hone : ∀ v, v ∈ (List.replicate len zs).flatten → v.oneCell' = true := fun v hv => by
     rw [List.mem_flatten] at hv
     obtain ⟨l, hl, hvl⟩ := hv
     rw [List.mem_replicate] at hl
     exact hz0 v (hl.2 ▸ hvl)
    obtain ⟨c1, c2, c3⟩ := MHold.setCells (new := List.replicate len (zs.map .v)) (vs := (List.replicate len zs).flatten) (lo := lo) hH hBb hO hb hlc hcm hsz hw hc (by simpa using hlen) (by rw [hflen]; simp) (fun r hr => by rw [List.mem_replicate] at hr; rw [hr.2]; simp [hzk]) (fun i r j d hi hj => by
     rw [List.getElem?_replicate] at hi
     split at hi
     ·rename_i hil
      simp only [Option.some.injEq] at hi
      subst hi
      simp only [List.getElem?_map, Option.map_eq_some_iff] at hj
      obtain ⟨v, hv, rfl⟩ := hj
      have hjk : j < k := by rw [← hzk]; exact (List.getElem?_eq_some_iff.1 hv).1
      refine ⟨v, ?_, .v v, hz0 v (List.mem_of_getElem? hv)⟩
      have : ∀ (n i : Nat), i < n → ((List.replicate n zs).flatten)[i * k + j]? = some v := by
       intro n
       induction n with
       | zero => intro i hi; omega
       | succ n ih =>
        intro i hi
        rw [List.replicate_succ, List.flatten_cons]
        cases i with
        | zero => rw [List.getElem?_append_left (by omega)]; simpa using hv
        | succ i =>
         rw [List.getElem?_append_right (by rw [hzk, Nat.succ_mul]; omega), ← ih i (by omega)]
         congr 1
         rw [hzk, Nat.succ_mul]; omega
      exact this len i hil
     ·cases hi) hone
    have hfit : lo * k + ((List.replicate len zs).flatten).length ≤ xs.size := by
     rw [hflen, hsz, ← Nat.add_mul]
     exact Nat.mul_le_mul_right k (by omega)
    have hst := run_storeCells_at P b (lo * k) T ((List.replicate len zs).flatten) 0 xs w hb (by simpa using hfit) hone
    have : (Builtin.clear_ #[t] o.type #[.slice (some ⟨b, lo * k, none⟩) len (C - lo)]).run P w = .ok (.tuple #[]) (w.setRow b (xs.toList.take (lo * k) ++ (List.replicate len zs).flatten ++ xs.toList.drop (lo * k + ((List.replicate len zs).flatten).length)).toArray) := by
     simp only [Nat.add_zero] at hst
     simp only [Builtin.clear_]
     simp [run_underlying (esz_spec ht).1, hz1, hzc, hst, hl0]
    rw [this]
    refine hK _ _ c1 c2 ?_ (hrt.mono0 c1)
    simpa using c3
end
end Go.Eng
end

section
namespace Go.Eng
open Go.RowKit (Below)
def valS (H : Nat → Value) : Nat → S → Option Value
 | 0, _ => none
 | n + 1, s => match s with
  | .d (.v x) => some x
  | .o h => some (H h)
  | .g cs => (cs.mapM (valS H n)).map fun l => .agg l.toArray
  | .t cs => (cs.mapM (valS H n)).map fun l => .tuple l.toArray
  | .f fn [] [] => some (.func (.func fn) #[] #[])
  | _ => none
theorem valS_list {O : Nat → Nat} {H : Nat → Value} {w : World} {f : S → Option Value} : ∀ {xs : List Value} {ss : List S} {ys : List Value}, xs.length = ss.length →
  (∀ (i : Nat) (x : Value) (s : S) (y : Value), xs[i]? = some x → ss[i]? = some s → f s = some y → x = y) → ss.mapM f = some ys → xs = ys := by
 intro xs ss ys hl h hm
 obtain ⟨m1, m2⟩ := mapM_some hm
 refine List.ext_getElem (by rw [hl, m1]) fun i h1 h2 => ?_
 exact h i _ _ _ (List.getElem?_eq_getElem h1) (List.getElem?_eq_getElem (by omega)) (m2 i _ _ (List.getElem?_eq_getElem (by omega)) (List.getElem?_eq_getElem h2))
theorem valS_rep {O : Nat → Nat} {H : Nat → Value} {w : World} : ∀ (n : Nat) {x y : Value} {s : S}, RepS O H w x s → valS H n s = some y → x = y
 | 0, _, _, _, _, h => by simp [valS] at h
 | n + 1, x, y, s, hr, h => by
  cases hr with
  | d x d hd =>
   cases hd with
   | v x => simpa [valS] using h
   | e => simp [valS] at h
   | s => simp [valS] at h
  | g xs ss hl h1 hg =>
   simp only [valS, Option.map_eq_some_iff] at h
   obtain ⟨l, hl', rfl⟩ := h
   rw [valS_list (O := O) (H := H) (w := w) hl (fun i x s y hx hs hv => valS_rep n (hg i x s hx hs) hv) hl']
  | t xs ss hl hg =>
   simp only [valS, Option.map_eq_some_iff] at h
   obtain ⟨l, hl', rfl⟩ := h
   rw [valS_list (O := O) (H := H) (w := w) hl (fun i x s y hx hs hv => valS_rep n (hg i x s hx hs) hv) hl']
  | o h' h1 => simpa [valS] using h
  | f fn xs ys fs cs hl hl' hx hy =>
   cases fs with
   | nil =>
    cases cs with
    | nil =>
     cases xs with
     | nil =>
      cases ys with
      | nil => simpa [valS] using h
      | cons => simp at hl'
     | cons => simp at hl
    | cons => simp [valS] at h
   | cons => simp [valS] at h
  | p => simp [valS] at h
  | r => simp [valS] at h
  | q => simp [valS] at h
  | w => simp [valS] at h
  | a => simp [valS] at h
  | c => simp [valS] at h
  | u => simp [valS] at h
structure Touch (v : Value) (w w' : World) : Prop where
 os : w'.os = w.os
 tape : w'.tape = w.tape
 output : w'.output = w.output
 size : w.heap.size ≤ w'.heap.size
 same : ∀ b, b < w.heap.size → v.ownBlock ≠ some b → w'.heap[b]? = w.heap[b]?
def newBlock (v v' : Value) (w : World) : Prop := v'.ownBlock = none ∨ v'.ownBlock = v.ownBlock ∨ ∃ b, v'.ownBlock = some b ∧ w.heap.size ≤ b
structure DoesW (P : Program) (f : Nat) (args : Value → List Value) (res : Value → Value) (k T : Nat) (rows rows' : List (List D)) : Prop where
 can : ∀ xs w, (callFunc f xs).run P w = .ok (.enter f xs) w
 run : ∀ (w : World) (v : Value), OwnVal 0 w v k T rows → Calls P f (args v).toArray w fun en w' => ∃ v', en = .returned (res v') ∧ Touch v w w' ∧ OwnVal 0 w' v' k T rows' ∧ newBlock v v' w
structure DoesWS (P : Program) (f : Nat) (args : Value → List Value) (res : Value) (k T : Nat) (rows rows' : List (List D)) : Prop where
 can : ∀ xs w, (callFunc f xs).run P w = .ok (.enter f xs) w
 run : ∀ (w : World) (v : Value), OwnVal 0 w v k T rows → Calls P f (args v).toArray w fun en w' => en = .returned res ∧ Touch v w w' ∧ OwnVal 0 w' v k T rows'
def plainB (rows : List (List D)) : Bool := rows.all fun r => r.all fun d => match d with | .v _ => true | _ => false
theorem MHold.ownVal {O : Nat → Nat} {H : Nat → Value} {B : Nat} {w : World} {h k T : Nat} {rows : List (List D)} (hm : MHold O H B w h (.own k T rows)) (hp : plainB rows = true) : OwnVal B w (H h) k T rows := by
 rcases hm with ⟨h0, rfl⟩ | ⟨b, cap, xs, hH, hB, hO, hb, hlc, hcm, hsz, hw, hc⟩
 ·exact .inl ⟨h0, rfl⟩
 ·refine .inr ⟨b, cap, xs, hH, hB, hb, hlc, hcm, hsz, hw, fun i r j d hi hj => ?_⟩
  obtain ⟨x, hx, hr, h1⟩ := hc i r j d hi hj
  have := List.all_eq_true.1 (List.all_eq_true.1 hp r (List.mem_of_getElem? hi)) d (List.mem_of_getElem? hj)
  cases hr with
  | v _ => exact ⟨x, hx, rfl, h1⟩
  | _ => simp at this
theorem OwnVal.weak {B B' : Nat} {w : World} {x : Value} {k T : Nat} {rows : List (List D)} (h : OwnVal B w x k T rows) (hB : B' ≤ B) : OwnVal B' w x k T rows := by
 rcases h with h | ⟨b, cap, xs, h1, h2, h3⟩
 ·exact .inl h
 ·exact .inr ⟨b, cap, xs, h1, by omega, h3⟩
theorem MHold.label {O : Nat → Nat} {H : Nat → Value} {B : Nat} {w : World} {h k T : Nat} {rows : List (List D)} (hm : MHold O H B w h (.own k T rows)) {b : Nat} (hb : (H h).ownBlock = some b) : O b = h + 1 ∧ B ≤ b ∧ b < w.heap.size := by
 rcases hm with ⟨h0, rfl⟩ | ⟨b', cap, xs, hH, hB, hO, hb', _⟩
 ·rw [h0] at hb; cases hb
 ·rw [hH] at hb
  simp only [Value.ownBlock, Option.some.injEq] at hb
  subst hb
  exact ⟨hO, hB, (Array.getElem?_eq_some_iff.1 hb').1⟩
theorem callW_core {O : Nat → Nat} {H : Nat → Value} {B : Nat} {w w' : World} {h k T : Nat} {rows rows' : List (List D)} {v' : Value} (hm : MHold O H B w h (.own k T rows)) (hB : B ≤ w.heap.size) (ht : Touch (H h) w w') (hv : OwnVal 0 w' v' k T rows') (hn : newBlock (H h) v' w) :
  ∃ O' H', H' h = v' ∧ v'.oneCell' = true ∧ Keep (some h) (some h) O H w O' H' w' ∧ Below B w w' ∧ MHold O' H' B w' h (.own k T rows') := by
 refine ⟨fun b => if b < w.heap.size then O b else h + 1, fun n => if n = h then v' else H n, by simp, ?_, ⟨fun b hb => by simp [hb], fun b hb hne => ht.same b hb fun e => ?_, fun n hn => ?_⟩, ⟨ht.os, ht.tape, ht.output, ht.size, fun b hb => ht.same b (by omega) fun e => ?_⟩, ?_⟩
 ·rcases hv with ⟨rfl, _⟩ | ⟨b, cap, xs, rfl, _⟩ <;> rfl
 ·exact hne h rfl (hm.label e).1
 ·have : n ≠ h := fun e => hn (by rw [e])
  simp [this]
 ·have := (hm.label e).2.1; omega
 ·rcases hv with ⟨rfl, rfl⟩ | ⟨b, cap, xs, rfl, _, hb, hlc, hcm, hsz, hw, hc⟩
  ·exact .inl ⟨by simp, rfl⟩
  ·refine .inr ⟨b, cap, xs, by simp, ?_, ?_, hb, hlc, hcm, hsz, hw, fun i r j d hi hj => ?_⟩
   ·rcases hn with hn | hn | ⟨b', hn, hb'⟩
    ·cases hn
    ·exact (hm.label hn.symm).2.1
    ·simp only [Value.ownBlock, Option.some.injEq] at hn; omega
   ·rcases hn with hn | hn | ⟨b', hn, hb'⟩
    ·cases hn
    ·have := hm.label hn.symm
     simp [this.1, this.2.2]
    ·simp only [Value.ownBlock, Option.some.injEq] at hn
     subst hn
     have : ¬ b < w.heap.size := by omega
     simp [this]
   ·obtain ⟨x, hx, rfl, h1⟩ := hc i r j d hi hj
    exact ⟨x, hx, .v x, h1⟩
section
variable {P : Program} {N : Nat} {w0 : World} {O0 : Nat → Nat} {ops : Array Oper} {Q : Post} {e : Env} {M : Mem} {rest : List Oper} {o : Oper} {s : S} {B : Nat}
theorem argsEq {a : Act} {O : Nat → Nat} {H : Nat → Value} {w : World} {as_ : Array Operand} {l : List S} {ys : List Value} (hs : ∀ x, x ∈ as_ → ∀ s, opS e x = some s → RepS O H w (a.eval x) s) (ha : opsS e as_.toList = some l) (hv : l.mapM (valS H 9) = some ys) : as_.toList.map a.eval = ys := by
 obtain ⟨a1, a2⟩ := opsS_rep (O := O) (H := H) (w := w) (a := a) as_.toList l ha (fun x hx s hs' => hs x (by simpa using hx) s hs')
 exact valS_list (O := O) (H := H) (w := w) (by simpa using a1) (fun i x s y hx hs hv => valS_rep 9 (a2 i x s hx hs) hv) hv
theorem run_callW {a : Act} {w : World} {fn : Nat} {g : Operand} {as_ : Array Operand} {ts : Array TypeId} {ys : List Value} (can : ∀ xs w, (callFunc fn xs).run P w = .ok (.enter fn xs) w) (ho : o.op = .call { callee := .value g, args := as_, argTypes := ts }) (hg : a.eval g = .func (.func fn) #[] #[]) (ha : as_.toList.map a.eval = ys) :
  (execOp a.eval o).run P w = .ok (.enter fn ys.toArray) w := by
 have := run_call (o := o) (xs := []) (zs := []) can a w g as_ ts ho hg ha
 simpa using this
theorem OpSt.callWS {h fn k T : Nat} {g : Operand} {as_ : Array Operand} {ts : Array TypeId} {rows rows' : List (List D)} {args : Value → List Value} {res : Value} {l : List S} (hspec : DoesWS P fn args res k T rows rows')
  (ho : o.op = .call { callee := .value g, args := as_, argTypes := ts }) (hg : opS e g = some (.f fn [] [])) (ha : opsS e as_.toList = some l) (hv : ∀ H, l.mapM (valS H 9) = some (args (H h))) (hp : plainB rows = true) (hr : ∀ O H w, RepS O H w res s) :
  OpSt P B o e h (.own k T rows) (.own k T rows') s := by
 intro O H a w hB hs hm K hK
 have hg' : a.eval g = .func (.func fn) #[] #[] := valS_rep 9 (hs g (by simp [ho, Op.operands, Call.operands]) _ hg) rfl
 have hargs := argsEq (a := a) (O := O) (H := H) (w := w) (as_ := as_) (fun x hx s hs' => hs x (by simp only [ho, Op.operands, Call.operands]; simpa using .inr hx) s hs') ha (hv H)
 unfold Oper.wp
 rw [run_callW hspec.can ho hg' hargs]
 refine (hspec.run w (H h) ((hm.ownVal hp).weak (Nat.zero_le _))).mono ?_
 rintro en w' ⟨rfl, ht, hv'⟩
 have hk : Keep (some h) none O H w O H w' := ⟨fun _ _ => rfl, fun b hb hne => ht.same b hb fun e => hne h rfl (hm.label e).1, fun _ _ => rfl⟩
 refine hK w' _ hk ⟨ht.os, ht.tape, ht.output, ht.size, fun b hb => ht.same b (by omega) fun e => ?_⟩ ?_ (hr _ _ _)
 ·have := (hm.label e).2.1; omega
 ·rcases hv' with ⟨h0, rfl⟩ | ⟨b, cap, xs, h0, _, hb, hlc, hcm, hsz, hw, hc⟩
  ·exact .inl ⟨h0, rfl⟩
  ·have hl := hm.label (b := b) (by rw [h0]; rfl)
   refine .inr ⟨b, cap, xs, h0, hl.2.1, hl.1, hb, hlc, hcm, hsz, hw, fun i r j d hi hj => ?_⟩
   obtain ⟨x, hx, rfl, h1⟩ := hc i r j d hi hj
   exact ⟨x, hx, .v x, h1⟩
theorem TrOps.callW {h d fn k T : Nat} {g : Operand} {as_ : Array Operand} {ts : Array TypeId} {rows rows' : List (List D)} {args : Value → List Value} {res : Value → Value} {l : List S} (hspec : DoesW P fn args res k T rows rows')
  (ho : o.op = .call { callee := .value g, args := as_, argTypes := ts }) (hgd : o.guard = none) (hd : o.dst = some d) (hdN : d < N) (hg : opS e g = some (.f fn [] [])) (ha : opsS e as_.toList = some l) (hM : look M h = some (.own k T rows)) (hv : ∀ H, l.mapM (valS H 9) = some (args (H h))) (hp : plainB rows = true)
  (hr : ∀ O (H : Nat → Value) w, (H h).oneCell' = true → RepS O H w (res (H h)) s) (hn : TrOps P N w0 O0 ops Q ((d, s) :: kill h e) ((h, .own k T rows') :: killM h M) rest) : TrOps P N w0 O0 ops Q e M (o :: rest) := by
 intro O H a w hst
 have hm := hst.mem h _ hM
 refine wpList_plain hgd fun K hK => Oper.wp_false ?_ Q
 have hg' : a.eval g = .func (.func fn) #[] #[] := valS_rep 9 (hst.slotsAt #[g] g (by simp) _ hg) rfl
 have hargs := argsEq (a := a) (O := O) (H := H) (w := w) (as_ := as_) (fun x hx s hs' => hst.slotsAt as_ x hx s hs') ha (hv H)
 unfold Oper.wp
 rw [run_callW hspec.can ho hg' hargs]
 refine (hspec.run w (H h) ((hm.ownVal hp).weak (Nat.zero_le _))).mono ?_
 rintro en w' ⟨v', rfl, ht, hv', hnb⟩
 obtain ⟨O', H', h1, h2, hk, hb, hmm⟩ := callW_core hm hst.size ht hv' hnb
 have hrx := hr O' H' w' (by rw [h1]; exact h2)
 rw [h1] at hrx
 have hsz := hst.size
 refine hK _ _ (hn O' H' _ _ ⟨?_, ?_, hst.bl.trans (hb.mono (Nat.le_refl _)), fun b hb' => (hk.lab b (by omega)).trans (hst.lab b hb'), ?_, fun h' m hm' => ?_⟩)
 ·rw [hd]; exact hst.df
 ·rw [hd]; simp [Act.put, hst.sz]
 ·rw [hd]
  refine put_slots hst.sz hdN hrx fun n s hs => ?_
  obtain ⟨s', hs', hor⟩ := look_kill hs
  obtain ⟨y, hy, hr⟩ := hst.slots n s' hs'
  rcases hor with ⟨hok, rfl⟩ | rfl
  ·exact ⟨y, hy, hr.mono hk 9 (fun h he => by cases he; exact hok) (.inr (by omega))⟩
  ·exact ⟨y, hy, .u y⟩
 ·rcases look_cons hm' with ⟨rfl, rfl⟩ | ⟨hne, hm'⟩
  ·exact hmm
  ·obtain ⟨m', hm2, hor⟩ := look_killM hm'
   rcases hor with rfl | ⟨hn', rfl⟩
   ·trivial
   ·exact ((hst.mem h' m' hm2).kill (h := h)).mono hk (by simp; omega) (by simp; omega) 9 (fun h1 he => by cases he; exact Mo.kill_ok _ m') (.inr (by omega))
def frK (Oc : Nat → Nat) (W : World) : Kr := {
 q O w _ := Keeps Oc W O w
 mono := fun O w O' w' x hk h => h.trans hk }
def RetW (Oc : Nat → Nat) (W : World) (res : Value → Value) (k T : Nat) (rows : List (List D)) : Ending → World → Prop :=
 fun en w' => ∃ v' O', en = .returned (res v') ∧ w'.os = W.os ∧ w'.tape = W.tape ∧ w'.output = W.output ∧ Keeps Oc W O' w' ∧ OwnVal 0 w' v' k T rows ∧ ∀ b, v'.ownBlock = some b → O' b = 1
theorem DoesW.of_body {f : Nat} {args : Value → List Value} {res : Value → Value} {k T : Nat} {rows rows' : List (List D)} {as_ : List S} {fn : Func} {c : Code} (hf : P.funcs[f]? = some fn) (hb : fn.body = some c) (hN : fn.ntmps = N) (hlen : as_.length ≤ N)
  (can : ∀ xs w, (callFunc f xs).run P w = .ok (.enter f xs) w) (hal : ∀ v, (args v).length = as_.length) (hrep : ∀ O (H : Nat → Value) w, (H 0).oneCell' = true → ∀ (i : Nat) (x : Value) (s : S), (args (H 0))[i]? = some x → as_[i]? = some s → RepS O H w x s)
  (hne : rows ≠ []) (hne' : rows' ≠ [])
  (h : ∀ (O0 : Nat → Nat) (Oc : Nat → Nat) (W : World), Tr P N { W with heap := #[] } O0 (entry 0 as_) [(0, .own k T rows), (1000, .fr (frK Oc W))] c (bodyPost P fn (RetW Oc W res k T rows'))) : DoesW P f args res k T rows rows' := by
 refine ⟨can, fun w v hv => ?_⟩
 have h1c : v.oneCell' = true := by rcases hv with ⟨rfl, _⟩ | ⟨b, cap, xs, rfl, _⟩ <;> rfl
 obtain ⟨Oc, hOc⟩ : ∃ Oc : Nat → Nat, Oc = fun b => if v.ownBlock = some b then 1 else 0 := ⟨_, rfl⟩
 refine (calls_of_wp hf hb (h Oc Oc w Oc (fun _ => v) _ w ⟨rfl, ?_, ⟨rfl, rfl, rfl, Nat.zero_le _, fun k hk => absurd hk (Nat.not_lt_zero k)⟩, fun b hb => absurd hb (Nat.not_lt_zero b), fun n s hs => ?_, fun n m hm => ?_⟩)).mono ?_
 ·have := hal v
  simp; omega
 ·obtain ⟨_, hn⟩ := look_entry as_ 0 n s hs
  simp only [Nat.sub_zero] at hn
  have hlt : n < (args v).length := by rw [hal]; exact (List.getElem?_eq_some_iff.1 hn).1
  refine ⟨(args v)[n], ?_, hrep Oc (fun _ => v) w h1c n _ s (List.getElem?_eq_getElem hlt) hn⟩
  rw [Array.getElem?_append_left (by simpa using hlt)]
  simp [hlt]
 ·rcases look_cons hm with ⟨rfl, rfl⟩ | ⟨_, hm⟩
  ·rcases hv with ⟨h0, rfl⟩ | ⟨b, cap, xs, h0, _, hb, hlc, hcm, hsz, hw, hc⟩
   ·exact .inl ⟨h0, rfl⟩
   ·refine .inr ⟨b, cap, xs, h0, Nat.zero_le _, by rw [hOc, h0]; simp [Value.ownBlock], hb, hlc, hcm, hsz, hw, fun i r j d hi hj => ?_⟩
    obtain ⟨x, hx, rfl, h1⟩ := hc i r j d hi hj
    exact ⟨x, hx, .v x, h1⟩
  ·rcases look_cons hm with ⟨rfl, rfl⟩ | ⟨_, hm⟩
   ·exact fun b _ h => ⟨h, rfl⟩
   ·cases hm
 ·rintro en w' ⟨v', O', rfl, hos, htp, hout, hk, hv', hlab⟩
  have hsz : w.heap.size ≤ w'.heap.size := by
   rcases hv with ⟨_, h0⟩ | ⟨b, cap, xs, h0, _, hb, _⟩
   ·exact absurd h0 hne
   ·rcases hv' with ⟨_, h0'⟩ | ⟨b', cap', xs', h0', _, hb', _⟩
    ·exact absurd h0' hne'
    ·have hl := (Array.getElem?_eq_some_iff.1 hb).1
     have hl' := (Array.getElem?_eq_some_iff.1 hb').1
     by_cases hlast : b = w.heap.size - 1
     ·by_cases hbb : b' < w.heap.size
      ·by_cases he : b' = b
       ·omega
       ·have h2 := (hk b' hbb (by rw [hOc]; simp only [h0, Value.ownBlock]; rw [if_neg (by simp; omega)])).1
        have h3 := hlab b' (by rw [h0']; rfl)
        omega
      ·omega
     ·have h2 := (hk (w.heap.size - 1) (by omega) (by rw [hOc]; simp only [h0, Value.ownBlock]; rw [if_neg (by simp; omega)])).2
      have h3 := h2.trans (Array.getElem?_eq_getElem (show w.heap.size - 1 < w.heap.size by omega))
      have := (Array.getElem?_eq_some_iff.1 h3).1
      omega
  refine ⟨v', rfl, ⟨hos, htp, hout, hsz, fun b hb hne => (hk b hb (by rw [hOc]; simp [hne])).2⟩, hv', ?_⟩
  cases hvb : v'.ownBlock with
  | none => exact .inl hvb
  | some b =>
   by_cases hlt : b < w.heap.size
   ·refine .inr (.inl ?_)
    rw [hvb]
    refine (Decidable.byContradiction fun hne => ?_ : v.ownBlock = some b).symm
    have := (hk b hlt (by rw [hOc]; simp [hne])).1
    rw [hlab b hvb] at this
    cases this
   ·exact .inr (.inr ⟨b, hvb, by omega⟩)
theorem At.retW {Oc : Nat → Nat} {W : World} {res : Value → Value} {k T : Nat} {rows rows' : List (List D)} {fn : Func} {rs : List ResultVar} {l : List S} (hres : fn.results.toList = rs) (hl : RetL P e M rs l) (hM : look M 0 = some (.own k T rows)) (hK : look M 1000 = some (.fr (frK Oc W))) (hp : plainB rows = true) (hr : rows = rows')
  (hv : ∀ H, valS H 9 (one l) = some (res (H 0))) : At N { W with heap := #[] } O0 e M .ret (bodyPost P fn (RetW Oc W res k T rows')) := by
 subst hr
 intro O H a w hst
 obtain ⟨vs, h1, h2, h3⟩ := hl.run hst
 have hrun : (results fn a.tmps).run P w = .ok (if h : vs.toArray.size = 1 then vs.toArray[0] else .tuple vs.toArray) w := by
  rw [results_rv, Array.mapM_eq_mapM_toList, hres]
  simp only [Sem.run_bind, Sem.run_map, h1, Result.andThen_ok, Sem.run_pure]
 have hrep : RepS O H w (if h : vs.toArray.size = 1 then vs.toArray[0] else .tuple vs.toArray) (one l) := by
  clear hrun hv hl h1
  cases l with
  | nil =>
   cases vs with
   | nil => simpa [one] using RepS.t (O := O) (H := H) (w := w) [] [] rfl h3
   | cons v vs => simp at h2
  | cons s l =>
   cases vs with
   | nil => simp at h2
   | cons v vs =>
    cases l with
    | nil =>
     cases vs with
     | nil => simpa [one] using h3 0 v s rfl rfl
     | cons v2 vs => simp at h2
    | cons s2 l =>
     cases vs with
     | nil => simp at h2
     | cons v2 vs => simpa [one] using RepS.t (O := O) (H := H) (w := w) (v :: v2 :: vs) (s :: s2 :: l) h2 h3
 have hx := valS_rep 9 hrep (hv H)
 have hm := hst.mem 0 _ hM
 refine ⟨hst.df, _, hrun, H 0, O, by rw [hx], hst.bl.os, hst.bl.tape, hst.bl.output, hst.mem 1000 _ hK, (hm.ownVal hp).weak (Nat.zero_le _), fun b hb => (hm.label hb).1⟩
end
end Go.Eng
end

section
namespace Go.Eng
open Go.RowKit (Below)
inductive DropR (d : Nat) : Env → Env → Prop
 | nil : DropR d [] []
 | hit {n : Nat} {s : S} {e e2 : Env} (h : Nat.beq n d = true) : DropR d e e2 → DropR d ((n, s) :: e) e2
 | miss {n : Nat} {s : S} {e e2 : Env} (h : Nat.beq n d = false) : DropR d e e2 → DropR d ((n, s) :: e) ((n, s) :: e2)
section
variable {P : Program} {N : Nat} {w0 : World} {O0 : Nat → Nat} {ops : Array Oper} {Q : Post} {e0 : Env} {M0 : Mem} {hs : List Nat}
def parOkL (ops : Array Oper) (k f : Nat) : Bool :=
 let ds : List (Option Nat) := ops.toList.map (·.dst)
 decide (f < k) && (List.range ops.size).all fun i => match ops[i]? with
  | none => false
  | some o =>
   (o.after.all fun e => !(Region.binds .any e) || decide (e.on < i)) &&
   (if i < k then
    (List.range k).all fun j => match ds.getD j none with
     | some d => (i == j || o.dst != some d) && (!((tmpsOf ops o).contains d) || (decide (j < i) && prec ops 9 i j) || (decide (i < j) && prec ops 9 j i))
     | none => true
   else (List.range i).all fun j => (i == k && j == f) || prec ops 9 i j)
theorem parOkL_hd {ops : Array Oper} {k f : Nat} (hok : parOkL ops k f = true) : ParHd ops k := by
 intro i o hik ho
 unfold parOkL at hok
 simp only [Bool.and_eq_true, List.all_eq_true, List.mem_range] at hok
 have := hok.2 i (Array.getElem?_eq_some_iff.1 ho).1
 simp only [ho, hik, if_true, Bool.and_eq_true] at this
 exact this.2
def dropE (d : Nat) (e : Env) : Env := e.filter fun x => !(Nat.beq x.1 d)
theorem look_dropE {d n : Nat} {s : S} : ∀ {e : Env}, look (dropE d e) n = some s → n ≠ d ∧ look e n = some s
 | [], h => by simp [dropE, look] at h
 | (a, b) :: e, h => by
  unfold dropE at h
  rw [List.filter_cons] at h
  split at h
  ·rename_i hx
   rcases look_cons h with ⟨rfl, rfl⟩ | ⟨hne, h⟩
   ·exact ⟨fun e => by subst e; simp at hx, look_cons_same _ _ _⟩
   ·obtain ⟨h1, h2⟩ := look_dropE (e := e) h
    refine ⟨h1, ?_⟩
    simp only [look]
    have : Nat.beq a n = false := by cases hb : Nat.beq a n with
     | false => rfl
     | true => exact (hne (Nat.eq_of_beq_eq_true hb).symm).elim
    rw [this]; exact h2
  ·rename_i hx
   obtain ⟨h1, h2⟩ := look_dropE (e := e) h
   refine ⟨h1, ?_⟩
   have ha : a = d := by simp at hx; exact hx
   simp only [look]
   have : Nat.beq a n = false := by cases hb : Nat.beq a n with
    | false => rfl
    | true => exact (h1 ((Nat.eq_of_beq_eq_true hb).symm.trans ha)).elim
   rw [this]; exact h2
theorem par_late {k f : Nat} {ps : List PO} {pf : PO} {ok of : Oper} (hpw : PW P w0.heap.size ops hs M0 (ops.toList.take k) ps e0) (hk : k ≤ ops.size) (hok : parOkL ops k f = true) (hh : handOk e0 M0 ps = true) (hso : stOk hs ps = true) (hN : ∀ p, p ∈ ps → p.ds = true → p.d < N)
  (hpf : ps[f]? = some pf) (hpfs : pf.st = none) (hpfm : pf.mo = none) (hpfd : pf.ds = true) (hokk : ops[k]? = some ok) (hof : ops[f]? = some of)
  (ht : TrOps P N w0 O0 ops Q (finE e0 ps) (finM M0 ps) (ops.toList.drop k)) (htl : TrOps P N w0 O0 ops Q (finE (dropE pf.d e0) (ps.eraseIdx f)) (finM M0 (ps.eraseIdx f)) (ok :: of :: ops.toList.drop (k + 1))) :
  ∀ (fuel : Nat) (L : Array Bool) (a : Act) (w : World), L.size = ops.size → (∀ i, i < ops.size → L.getD i false = false → fuel ≠ 0) → ((List.range ops.size).filter fun i => !L.getD i false).length ≤ fuel →
   (∀ i, L.getD i false = true → ∀ o, ops[i]? = some o → ∀ e, e ∈ o.after → Region.binds .any e = true → L.getD e.on false = true) →
   ((∃ O H, PSt N w0 O0 e0 hs M0 ps L O H a w ∧ ∀ i, k ≤ i → L.getD i false = false) ∨ (∃ i0, k ≤ i0 ∧ (∀ i, i < ops.size → (L.getD i false = true ↔ i < i0)) ∧ i0 ≤ ops.size ∧ wpList P ops Q (ops.toList.drop i0) a w) ∨ ((∀ i, i < ops.size → (L.getD i false = true ↔ (i < k + 1 ∧ i ≠ f))) ∧ wpList P ops Q (of :: ops.toList.drop (k + 1)) a w)) →
   wpAny P .any ops Q fuel L a w := by
 have hops : ∀ i, i < ops.size → ∃ o, ops[i]? = some o := fun i hi => ⟨ops[i], Array.getElem?_eq_getElem hi⟩
 have hfk : f < k := by unfold parOkL at hok; simp only [Bool.and_eq_true, decide_eq_true_eq] at hok; exact hok.1
 have hkn : k < ops.size := (Array.getElem?_eq_some_iff.1 hokk).1
 have hlenp : ps.length = k := by have := hpw.get.1; rw [← this]; simp; omega
 have hchk : ∀ i o, ops[i]? = some o → (∀ e, e ∈ o.after → Region.binds .any e = true → e.on < i) ∧ (k ≤ i → ∀ j, j < i → ¬ (i = k ∧ j = f) → prec ops 9 i j = true) := by
  intro i o ho
  have hi : i < ops.size := (Array.getElem?_eq_some_iff.1 ho).1
  unfold parOkL at hok
  simp only [Bool.and_eq_true, List.all_eq_true, List.mem_range] at hok
  have := hok.2 i hi
  simp only [ho, Bool.and_eq_true] at this
  obtain ⟨h1, h2⟩ := this
  refine ⟨fun e he hb => ?_, fun hki j hj hne => ?_⟩
  ·have := Array.all_eq_true'.1 h1 e he
   simp only [hb, Bool.not_true, Bool.false_or, decide_eq_true_eq] at this
   exact this
  ·rw [if_neg (by omega)] at h2
   have h3 := List.all_eq_true.1 h2 j (List.mem_range.2 hj)
   simp only [Bool.or_eq_true, Bool.and_eq_true, beq_iff_eq] at h3
   exact h3.resolve_left hne
 have turn : ∀ (L : Array Bool) (a : Act) (w : World), L.size = ops.size → (∀ i, i < k → L.getD i false = true) → (∀ i, k ≤ i → L.getD i false = false) → (∃ O H, PSt N w0 O0 e0 hs M0 ps L O H a w) →
   (∀ i, i < ops.size → (L.getD i false = true ↔ i < k)) ∧ wpList P ops Q (ops.toList.drop k) a w := by
  rintro L a w hL h1 h2 ⟨O, H, hst⟩
  refine ⟨fun i hi => ⟨fun h => ?_, h1 i⟩, ht O H a w ⟨hst.df, hst.sz, hst.bl, hst.lab, fun n s hs => ?_, fun h m hm => ?_⟩⟩
  ·rcases Nat.lt_or_ge i k with h' | h'
   ·exact h'
   ·rw [h2 i h'] at h; cases h
  ·have hlen : ps.length = k := by have := hpw.get.1; rw [← this]; simp; omega
   rcases look_finE hs with ⟨i, p, hp, hps, rfl, rfl⟩ | ⟨h1', h2'⟩
   ·exact hst.new i p hp hps (h1 i (by rw [← hlen]; exact (List.getElem?_eq_some_iff.1 hp).1))
   ·exact hst.old n s h2' (fun j p hj hs he => absurd he (h1' p (List.mem_of_getElem? hj) hs))
  ·have hlen : ps.length = k := by have := hpw.get.1; rw [← this]; simp; omega
   rcases look_finM hm with ⟨i, p, hp, hps, hmo⟩ | ⟨i, p, m0, hp, hps⟩ | ⟨hns, hm⟩
   ·exact hst.mnew i p h m hp (h1 i (by rw [← hlen]; exact (List.getElem?_eq_some_iff.1 hp).1)) hps hmo
   ·have := hst.sto i p h m0 m hp hps
    rwa [if_pos (h1 i (by rw [← hlen]; exact (List.getElem?_eq_some_iff.1 hp).1))] at this
   ·refine hst.mold h m (look_dropM_of (fun hin => ?_) hm)
    unfold stOk at hso
    simp only [Bool.and_eq_true] at hso
    obtain ⟨p, hp, he⟩ := List.any_eq_true.1 (List.all_eq_true.1 hso.2 h hin)
    cases hps : p.st with
    | none => rw [hps] at he; cases he
    | some x =>
     obtain ⟨h', m0, m1⟩ := x
     rw [hps] at he
     exact hns p hp h' m0 m1 hps (Nat.eq_of_beq_eq_true he)
 have erase : ∀ (i : Nat) (p : PO), (ps.eraseIdx f)[i]? = some p → ∃ i', i' ≠ f ∧ i' < k ∧ ps[i']? = some p := by
  intro i p hp
  rw [List.getElem?_eraseIdx] at hp
  split at hp
  ·exact ⟨i, by omega, by rw [← hlenp]; exact (List.getElem?_eq_some_iff.1 hp).1, hp⟩
  ·exact ⟨i + 1, by omega, by rw [← hlenp]; exact (List.getElem?_eq_some_iff.1 hp).1, hp⟩
 have erase2 : ∀ (i : Nat) (p : PO), i ≠ f → ps[i]? = some p → p ∈ ps.eraseIdx f := by
  intro i p hne hp
  by_cases h : i < f
  ·exact List.mem_of_getElem? (i := i) (by rw [List.getElem?_eraseIdx, if_pos h]; exact hp)
  ·refine List.mem_of_getElem? (i := i - 1) ?_
   rw [List.getElem?_eraseIdx, if_neg (by omega)]
   have : i - 1 + 1 = i := by omega
   rw [this]; exact hp
 have turnL : ∀ (L : Array Bool) (a : Act) (w : World), L.size = ops.size → (∀ i, i < k → i ≠ f → L.getD i false = true) → (∃ O H, PSt N w0 O0 e0 hs M0 ps L O H a w) →
   wpList P ops Q (ok :: of :: ops.toList.drop (k + 1)) a w := by
  rintro L a w hL h1 ⟨O, H, hst⟩
  refine htl O H a w ⟨hst.df, hst.sz, hst.bl, hst.lab, fun n s hs => ?_, fun h m hm => ?_⟩
  ·rcases look_finE hs with ⟨i, p, hp, hps, rfl, rfl⟩ | ⟨h1', h2'⟩
   ·obtain ⟨i', h3, h4, h5⟩ := erase i p hp
    exact hst.new i' p h5 hps (h1 i' h4 h3)
   ·obtain ⟨h3, h4⟩ := look_dropE h2'
    refine hst.old n s h4 fun j p hj hps he => absurd he ?_
    have hp := List.mem_of_getElem? hj
    obtain ⟨i, hi⟩ := List.getElem?_of_mem hp
    by_cases hif : i = f
    ·subst hif; rw [hpf] at hi; cases hi; exact fun e => h3 e.symm
    ·exact h1' p (erase2 i p hif hi) hps
  ·rcases look_finM hm with ⟨i, p, hp, hps, hmo⟩ | ⟨i, p, m0, hp, hps⟩ | ⟨hns, hm⟩
   ·obtain ⟨i', h3, h4, h5⟩ := erase i p hp
    exact hst.mnew i' p h m h5 (h1 i' h4 h3) hps hmo
   ·obtain ⟨i', h3, h4, h5⟩ := erase i p hp
    have := hst.sto i' p h m0 m h5 hps
    rwa [if_pos (h1 i' h4 h3)] at this
   ·refine hst.mold h m (look_dropM_of (fun hin => ?_) hm)
    unfold stOk at hso
    simp only [Bool.and_eq_true] at hso
    obtain ⟨p, hp, he⟩ := List.any_eq_true.1 (List.all_eq_true.1 hso.2 h hin)
    cases hps : p.st with
    | none => rw [hps] at he; cases he
    | some x =>
     obtain ⟨h', m0, m1⟩ := x
     rw [hps] at he
     obtain ⟨i, hi⟩ := List.getElem?_of_mem hp
     have hif : i ≠ f := fun e => by subst e; rw [hpf] at hi; cases hi; rw [hpfs] at hps; cases hps
     exact hns p (erase2 i p hif hi) h' m0 m1 hps (Nat.eq_of_beq_eq_true he)
 have hrd : ∀ (L : Array Bool) (i : Nat), L.size = ops.size → i ∈ Region.ready .any ops L → i < ops.size ∧ L.getD i false = false ∧ ∀ o, ops[i]? = some o → ∀ e, e ∈ o.after → Region.binds .any e = true → L.getD e.on false = true := by
  intro L i hL hi
  unfold Region.ready at hi
  rw [List.mem_filter] at hi
  obtain ⟨h1, h2⟩ := hi
  rw [List.mem_range] at h1
  simp only [Bool.and_eq_true, Bool.not_eq_true'] at h2
  obtain ⟨h2, h3⟩ := h2
  refine ⟨h1, ?_, fun o ho e he hb => ?_⟩
  ·simpa [Array.getD_eq_getD_getElem?, Array.getElem?_eq_getElem (by omega : i < L.size)] using h2
  ·simp only [ho, Option.map_some, Option.getD_some] at h3
   have := Array.all_eq_true'.1 h3 e he
   simpa [hb] using this
 have hnone : ∀ (L : Array Bool), L.size = ops.size → Region.ready .any ops L = [] → ∀ i, i < ops.size → L.getD i false = true := by
  intro L hL hr i
  induction i using Nat.strongRecOn with
  | _ i ih =>
   intro hi
   cases hl : L.getD i false with
   | true => rfl
   | false =>
    exfalso
    obtain ⟨o, ho⟩ := hops i hi
    have : i ∈ Region.ready .any ops L := by
     unfold Region.ready
     rw [List.mem_filter]
     refine ⟨List.mem_range.2 hi, ?_⟩
     simp only [Bool.and_eq_true, Bool.not_eq_true']
     refine ⟨by simpa [Array.getD_eq_getD_getElem?, Array.getElem?_eq_getElem (by omega : i < L.size)] using hl, ?_⟩
     simp only [ho, Option.map_some, Option.getD_some, Array.all_eq_true', Bool.or_eq_true, Bool.not_eq_true']
     intro e he
     by_cases hb : Region.binds .any e = true
     ·exact .inr (ih e.on ((hchk i o ho).1 e he hb) (by have := (hchk i o ho).1 e he hb; omega))
     ·exact .inl (by simpa using hb)
    rw [hr] at this; cases this
 have hcl' : ∀ (L : Array Bool) (i : Nat), L.size = ops.size → i < ops.size → (∀ i, L.getD i false = true → ∀ o, ops[i]? = some o → ∀ e, e ∈ o.after → Region.binds .any e = true → L.getD e.on false = true) → (∀ o, ops[i]? = some o → ∀ e, e ∈ o.after → Region.binds .any e = true → L.getD e.on false = true) →
   ∀ j, (L.setIfInBounds i true).getD j false = true → ∀ o, ops[j]? = some o → ∀ e, e ∈ o.after → Region.binds .any e = true → (L.setIfInBounds i true).getD e.on false = true := by
  intro L i hL hi hcl hr j hj o ho e he hb
  rw [getD_set (by omega)] at hj ⊢
  split
  ·rfl
  ·by_cases hji : j = i
   ·subst hji; exact hr o ho e he hb
   ·rw [if_neg hji] at hj; exact hcl j hj o ho e he hb
 have hcount : ∀ (L : Array Bool) (i n : Nat), L.size = ops.size → i < ops.size → L.getD i false = false → ((List.range ops.size).filter fun i => !L.getD i false).length ≤ n + 1 → ((List.range ops.size).filter fun j => !(L.setIfInBounds i true).getD j false).length ≤ n := by
  intro L i n hL hi hl hc
  have : ((List.range ops.size).filter fun j => !(L.setIfInBounds i true).getD j false) = ((List.range ops.size).filter fun j => !L.getD j false).filter (fun j => j != i) := by
   rw [List.filter_filter]
   apply List.filter_congr
   intro j _
   rw [getD_set (by omega)]
   by_cases h : j = i <;> simp [h]
  rw [this]
  have hlt : (((List.range ops.size).filter fun j => !L.getD j false).filter (fun j => j != i)).length < ((List.range ops.size).filter fun j => !L.getD j false).length := by
   rw [List.length_filter_lt_length_iff_exists]
   exact ⟨i, List.mem_filter.2 ⟨List.mem_range.2 hi, by rw [hl]; rfl⟩, by simp⟩
  omega
 intro fuel
 induction fuel with
 | zero =>
  intro L a w hL hf hc hcl hJ
  have hall : ∀ i, i < ops.size → L.getD i false = true := fun i hi => by
   cases hl : L.getD i false with
   | true => rfl
   | false => exact absurd rfl (hf i hi hl)
  refine ⟨?_, ?_⟩
  ·rw [List.eq_nil_iff_forall_not_mem]
   intro i hi
   obtain ⟨h1, h2, _⟩ := hrd L i hL hi
   rw [hall i h1] at h2; cases h2
  ·rcases hJ with ⟨O, H, hst, htail⟩ | ⟨i0, h1, h2, h3, h4⟩ | ⟨h3, _⟩
   ·have := htail k (Nat.le_refl _); rw [hall k hkn] at this; cases this
   ·have : i0 = ops.size := by
     rcases Nat.lt_or_ge i0 ops.size with h | h
     ·have := (h2 i0 h).1 (hall i0 h); omega
     ·omega
    rw [List.drop_eq_nil_of_le (by simp; omega)] at h4
    exact h4
   ·exact absurd rfl ((h3 f (by omega)).1 (hall f (by omega))).2
 | succ fuel ih =>
  intro L a w hL hf hc hcl hJ
  have next : ∀ (i : Nat) (a' : Act) (w' : World), i < ops.size → L.getD i false = false → (∀ o, ops[i]? = some o → ∀ e, e ∈ o.after → Region.binds .any e = true → L.getD e.on false = true) →
    ((∃ O H, PSt N w0 O0 e0 hs M0 ps (L.setIfInBounds i true) O H a' w' ∧ ∀ j, k ≤ j → (L.setIfInBounds i true).getD j false = false) ∨ (∃ i0, k ≤ i0 ∧ (∀ j, j < ops.size → ((L.setIfInBounds i true).getD j false = true ↔ j < i0)) ∧ i0 ≤ ops.size ∧ wpList P ops Q (ops.toList.drop i0) a' w') ∨ ((∀ j, j < ops.size → ((L.setIfInBounds i true).getD j false = true ↔ (j < k + 1 ∧ j ≠ f))) ∧ wpList P ops Q (of :: ops.toList.drop (k + 1)) a' w')) →
    wpAny P .any ops Q fuel (L.setIfInBounds i true) a' w' := by
   intro i a' w' hi hl hr hJ'
   have hcc := hcount L i fuel hL hi hl hc
   refine ih _ a' w' (by simpa using hL) (fun j hj hlj h0 => ?_) hcc (hcl' L i hL hi hcl hr) hJ'
   subst h0
   have : ((List.range ops.size).filter fun j => !(L.setIfInBounds i true).getD j false) = [] := List.eq_nil_of_length_eq_zero (by omega)
   have hm : j ∈ ((List.range ops.size).filter fun j => !(L.setIfInBounds i true).getD j false) := List.mem_filter.2 ⟨List.mem_range.2 hj, by rw [hlj]; rfl⟩
   rw [this] at hm; cases hm
  have tail : ∀ (i0 : Nat), k ≤ i0 → (∀ i, i < ops.size → (L.getD i false = true ↔ i < i0)) → i0 ≤ ops.size → wpList P ops Q (ops.toList.drop i0) a w → ∀ i, i ∈ Region.ready .any ops L → wpOp P ops Q i (wpAny P .any ops Q fuel (L.setIfInBounds i true)) a w := by
   intro i0 h1 h2 h3 h4 i hi
   obtain ⟨hi1, hi2, hi3⟩ := hrd L i hL hi
   obtain ⟨o, ho⟩ := hops i hi1
   have hge : i0 ≤ i := by
    rcases Nat.lt_or_ge i i0 with h | h
    ·have := (h2 i hi1).2 h; rw [hi2] at this; cases this
    ·exact h
   have hall : ∀ j, j < i → L.getD j false = true := fun j hj => by
    by_cases hjf : j = f
    ·rw [hjf]; exact (h2 f (by omega)).2 (by omega)
    ·exact prec_closed hcl 9 i j ((hchk i o ho).2 (by omega) j hj (fun h => hjf h.2)) hi3
   have hii : i = i0 := by
    rcases Nat.lt_or_ge i0 i with h | h
    ·have := (h2 i0 (by omega)).1 (hall i0 h); omega
    ·omega
   subst hii
   have hd : ops.toList.drop i = o :: ops.toList.drop (i + 1) := by
    rw [List.drop_eq_getElem_cons (by simpa using hi1)]
    congr 1
    have := (Array.getElem?_eq_some_iff.1 ho).2
    simpa using this
   rw [hd] at h4
   have hK : ∀ a' w', wpList P ops Q (ops.toList.drop (i + 1)) a' w' → wpAny P .any ops Q fuel (L.setIfInBounds i true) a' w' := fun a' w' hw' =>
    next i a' w' hi1 hi2 hi3 (.inr (.inl ⟨i + 1, by omega, fun j hj => by
     rw [getD_set (by omega)]
     by_cases hji : j = i
     ·simp [hji]
     ·rw [if_neg hji, h2 j hj]; omega, by omega, hw'⟩))
   unfold wpOp
   simp only [ho]
   simp only [wpList] at h4
   split
   ·rename_i hw
    rw [if_pos hw] at h4
    exact h4.imp (Oper.wp_mono hK) id
   ·rename_i hw
    rw [if_neg hw] at h4
    exact hK _ _ h4
  refine ⟨fun hr => ?_, fun i hi => ?_⟩
  ·have hall := hnone L hL hr
   rcases hJ with ⟨O, H, hst, htail⟩ | ⟨i0, h1, h2, h3, h4⟩ | ⟨h3, _⟩
   ·have := htail k (Nat.le_refl _); rw [hall k hkn] at this; cases this
   ·have : i0 = ops.size := by
     rcases Nat.lt_or_ge i0 ops.size with h | h
     ·have := (h2 i0 h).1 (hall i0 h); omega
     ·omega
    rw [List.drop_eq_nil_of_le (by simp; omega)] at h4
    exact h4
   ·exact absurd rfl ((h3 f (by omega)).1 (hall f (by omega))).2
  ·obtain ⟨hi1, hi2, hi3⟩ := hrd L i hL hi
   obtain ⟨o, ho⟩ := hops i hi1
   rcases hJ with ⟨O, H, hst, htail⟩ | ⟨i0, h1, h2, h3, h4⟩ | ⟨h3, h4⟩
   ·rcases Nat.lt_or_ge i k with hik | hik
    ·refine PSt.step hpw hk (parOkL_hd hok) hh hso hL hcl hst hik ho (hi3 o ho) hi2 hN _ fun O' H' a' w' hst' => ?_
     refine next i a' w' hi1 hi2 hi3 (.inl ⟨O', H', hst', fun j hj => ?_⟩)
     rw [getD_set (by omega), if_neg (by omega)]
     exact htail j hj
    ·have hik' : i = k := by
      rcases Nat.lt_or_ge k i with h | h
      ·have := prec_closed hcl 9 i k ((hchk i o ho).2 hik k h (fun hh => by omega)) hi3
       rw [htail k (Nat.le_refl _)] at this; cases this
      ·omega
     subst hik'
     have hall : ∀ j, j < i → j ≠ f → L.getD j false = true := fun j hj hjf => prec_closed hcl 9 i j ((hchk i o ho).2 hik j hj (fun h => hjf h.2)) hi3
     by_cases hfL : L.getD f false = true
     ·obtain ⟨t1, t2⟩ := turn L a w hL (fun j hj => by
       by_cases hjf : j = f
       ·rw [hjf]; exact hfL
       ·exact hall j hj hjf) htail ⟨O, H, hst⟩
      exact tail i (Nat.le_refl _) t1 hk t2 i hi
     ·have hfF : L.getD f false = false := by simpa using hfL
      have h4 := turnL L a w hL hall ⟨O, H, hst⟩
      rw [hokk] at ho
      cases ho
      have hK : ∀ a' w', wpList P ops Q (of :: ops.toList.drop (i + 1)) a' w' → wpAny P .any ops Q fuel (L.setIfInBounds i true) a' w' := fun a' w' hw' =>
       next i a' w' hi1 hi2 hi3 (.inr (.inr ⟨fun j hj => by
        rw [getD_set (by omega)]
        by_cases hji : j = i
        ·simp [hji]; omega
        ·rw [if_neg hji]
         by_cases hjf : j = f
         ·subst hjf; rw [hfF]; simp
         ·rcases Nat.lt_or_ge j i with h | h
          ·rw [hall j h hjf]; simp; omega
          ·rw [htail j h]; simp; omega, hw'⟩))
      unfold wpOp
      simp only [hokk]
      unfold wpList at h4
      split
      ·rename_i hw
       rw [if_pos hw] at h4
       exact h4.imp (Oper.wp_mono hK) id
      ·rename_i hw
       rw [if_neg hw] at h4
       exact hK _ _ h4
   ·exact tail i0 h1 h2 h3 h4 i hi
   ·have hif : i = f := by
     refine Decidable.byContradiction fun hne => ?_
     have h5 : ¬ i < k + 1 := fun h => by have := (h3 i hi1).2 ⟨h, hne⟩; rw [hi2] at this; cases this
     have h6 := prec_closed hcl 9 i f ((hchk i o ho).2 (by omega) f (by omega) (fun h => by omega)) hi3
     exact absurd rfl ((h3 f (by omega)).1 h6).2
    subst hif
    rw [hof] at ho
    cases ho
    have hK : ∀ a' w', wpList P ops Q (ops.toList.drop (k + 1)) a' w' → wpAny P .any ops Q fuel (L.setIfInBounds i true) a' w' := fun a' w' hw' =>
     next i a' w' hi1 hi2 hi3 (.inr (.inl ⟨k + 1, by omega, fun j hj => by
      rw [getD_set (by omega)]
      by_cases hji : j = i
      ·simp [hji]; omega
      ·rw [if_neg hji, h3 j hj]; omega, by omega, hw'⟩))
    unfold wpOp
    simp only [hof]
    unfold wpList at h4
    split
    ·rename_i hw
     rw [if_pos hw] at h4
     exact h4.imp (Oper.wp_mono hK) id
    ·rename_i hw
     rw [if_neg hw] at h4
     exact hK _ _ h4
theorem Tr.parL {id k f : Nat} {ps : List PO} {pf : PO} {ok of : Oper} (hm : P.follows .mixedOrders = true) (hpw : PW P w0.heap.size ops hs M0 (ops.toList.take k) ps e0) (hk : k ≤ ops.size) (hok : parOkL ops k f = true) (hh : handOk e0 M0 ps = true) (hso : stOk hs ps = true) (hN : ps.all (fun p => !p.ds || decide (p.d < N)) = true)
  (hpf : ps[f]? = some pf) (hpfs : pf.st = none) (hpfm : pf.mo = none) (hpfd : pf.ds = true) (hokk : ops[k]? = some ok) (hof : ops[f]? = some of)
  (ht : TrOps P N w0 O0 ops Q (finE e0 ps) (finM M0 ps) (ops.toList.drop k)) (htl : TrOps P N w0 O0 ops Q (finE (dropE pf.d e0) (ps.eraseIdx f)) (finM M0 (ps.eraseIdx f)) (ok :: of :: ops.toList.drop (k + 1))) : Tr P N w0 O0 e0 M0 (.region id ops true) Q := by
 intro O H a w hst
 have memD : ∀ h m, look M0 h = some m → MHold O H w0.heap.size w.drew h m := fun h m hm => MHold.mono (w := w) (w' := w.drew) (hb := none) (hh := none) (O := O) (O' := O) (H := H) (H' := H) ⟨fun _ _ => rfl, fun _ _ _ => rfl, fun _ _ => rfl⟩ (hst.mem h m hm) (by simp) (by simp) 0 (fun h he => by cases he) (.inl rfl)
 refine wp_region_any hm (par_late hpw hk hok hh hso (fun p hp hps => by have := List.all_eq_true.1 hN p hp; rw [hps] at this; simpa using this) hpf hpfs hpfm hpfd hokk hof ht htl ops.size _ a _ (by simp) (fun i hi _ => by omega) (Nat.le_trans (List.length_filter_le _ _) (by simp)) (fun i hi => ?_) (.inl ⟨O, H, ?_, fun i _ => ?_⟩))
 ·simp only [Array.getD_eq_getD_getElem?, Array.getElem?_replicate] at hi
  split at hi <;> simp at hi
 ·refine ⟨hst.df, hst.sz, hst.bl.drew, hst.lab, fun n s hs _ => (let ⟨x, hx, hr⟩ := hst.slots n s hs; ⟨x, hx, RepS.keeps (w := w) (w' := w.drew) (O := O) (fun b _ h => ⟨h, rfl⟩) hr⟩), fun i p _ _ hi => ?_, fun h m hm => memD h m (look_dropM hm).1, fun i p h m _ hi => ?_, fun i p h m m' hp hps => ?_⟩
  ·simp only [Array.getD_eq_getD_getElem?, Array.getElem?_replicate] at hi
   split at hi <;> simp at hi
  ·simp only [Array.getD_eq_getD_getElem?, Array.getElem?_replicate] at hi
   split at hi <;> simp at hi
  ·have hF : (Array.replicate ops.size false).getD i false = false := by
    simp only [Array.getD_eq_getD_getElem?, Array.getElem?_replicate]
    split <;> simp
   rw [if_neg (by rw [hF]; simp)]
   obtain ⟨o, ho⟩ : ∃ o, (ops.toList.take k)[i]? = some o := ⟨(ops.toList.take k)[i]'(by rw [hpw.get.1]; exact (List.getElem?_eq_some_iff.1 hp).1), List.getElem?_eq_getElem _⟩
   have hs1 := hpw.get.2 i o p ho hp
   simp only [PStep, hps] at hs1
   exact memD h m hs1.2.2.2.1
 ·simp only [Array.getD_eq_getD_getElem?, Array.getElem?_replicate]
  split <;> simp
theorem PC.doneL {id : Nat} {ps : List PO} {e : Env} {rest : List Oper} (k f : Nat) {pf : PO} {ok of : Oper} (hm : P.follows .mixedOrders = true) (hkl : ps.length = k) (hok : parOkL ops k f = true) (hh : handOk e0 M0 ps = true) (hso : stOk hs ps = true) (hN : ps.all (fun p => !p.ds || decide (p.d < N)) = true)
  (hpf : ps[f]? = some pf) (hpfs : pf.st = none) (hpfm : pf.mo = none) (hpfd : pf.ds = true) (hof : ops[f]? = some of)
  (ht : TrOps P N w0 O0 ops Q e (finM M0 ps) (ok :: rest)) (htl : TrOps P N w0 O0 ops Q (finE (dropE pf.d e0) (ps.eraseIdx f)) (finM M0 (ps.eraseIdx f)) (ok :: of :: rest)) : PC P N w0 O0 id ops Q hs e0 M0 ps e (ok :: rest) := by
 intro pre hops hpw he
 subst he
 subst hkl
 have hlen : pre.length = ps.length := hpw.get.1
 have hk : ps.length ≤ ops.size := by
  have : ops.size = (pre ++ ok :: rest).length := by rw [← hops]; simp
  rw [this, ← hlen]; simp
 have hd : ops.toList.drop (ps.length + 1) = rest := by rw [hops, ← hlen, List.drop_append]; simp
 have hokk : ops[ps.length]? = some ok := by
  rw [← Array.getElem?_toList, hops, ← hlen, List.getElem?_append_right (Nat.le_refl _)]; simp
 refine Tr.parL (k := ps.length) (f := f) (ps := ps) (pf := pf) (ok := ok) (of := of) hm ?_ hk hok hh hso hN hpf hpfs hpfm hpfd hokk hof ?_ ?_
 ·rw [hops, ← hlen, List.take_left]; exact hpw
 ·rw [hops, ← hlen, List.drop_left]; exact ht
 ·rw [hd]; exact htl
theorem PC.doneLn {id : Nat} {ps : List PO} {e : Env} {rest : List Oper} (k f h1 : Nat) (m1 : Mo) (h2 : Nat) (m2 : Mo) {pf : PO} {ok of : Oper} {e2 : Env} (hm : P.follows .mixedOrders = true) (hkl : ps.length = k) (hok : parOkL ops k f = true) (hh : handOk e0 M0 ps = true) (hso : stOk hs ps = true) (hN : ps.all (fun p => !p.ds || decide (p.d < N)) = true)
  (hpf : ps[f]? = some pf) (hpfs : pf.st = none) (hpfm : pf.mo = none) (hpfd : pf.ds = true) (hof : ops[f]? = some of) (_hd2 : DropR pf.d e e2) (he2 : finE (dropE pf.d e0) (ps.eraseIdx f) = e2) (hM1 : finM M0 ps = (h2, m2) :: (h1, m1) :: M0) (hM2 : finM M0 (ps.eraseIdx f) = (h2, m2) :: (h1, m1) :: M0)
  (ht : TrOps P N w0 O0 ops Q e ((h2, m2) :: (h1, m1) :: M0) (ok :: rest)) (htl : TrOps P N w0 O0 ops Q e2 ((h2, m2) :: (h1, m1) :: M0) (ok :: of :: rest)) : PC P N w0 O0 id ops Q hs e0 M0 ps e (ok :: rest) := by
 subst he2
 exact PC.doneL k f hm hkl hok hh hso hN hpf hpfs hpfm hpfd hof (by rw [hM1]; exact ht) (by rw [hM2]; exact htl)
end
end Go.Eng
end

section
namespace Go.Eng
open Go.RowKit (Below)
section
variable {P : Program} {B : Nat} {o : Oper} {e : Env} {M : Mem} {s : S}
end
end Go.Eng
namespace Go.Eng
open Go.RowKit (Below)
section
variable {P : Program} {N : Nat} {w0 : World} {O0 : Nat → Nat} {ops : Array Oper} {Q : Post} {e : Env} {M : Mem} {rest : List Oper} {o : Oper} {s : S} {B : Nat}
theorem OpSt.storeqN {t : TypeId} {x y : Operand} {g : Bool} {h k T i : Nat} {rows : List (List D)} {r' : List D} (ho : o.op = .store t x y) (hx : opS e x = some (.q h k i 0)) (hy : opS e y = some s) (hs : s.cells = some (r'.map .d))
  (ht : vsz P t = some (g, k)) (hi : i < rows.length) (hrk : r'.length = k) : OpSt P B o e h (.own k T rows) (.own k T (rows.take i ++ [r'] ++ rows.drop (i + 1))) .u := by
 intro O H a w hBw hsl hm K hK
 have hr := hsl x (by simp [ho, Op.operands]) _ hx
 have hv := hsl y (by simp [ho, Op.operands]) _ hy
 obtain ⟨v1, v2⟩ := hv.cells hs
 simp only [List.length_map] at v1
 generalize hxa : a.eval x = xa at hr
 cases hr with
 | q h b k i j len cap' hH' =>
  rcases hm with ⟨h0, _⟩ | ⟨b', cap, xs, hH, hB, hO, hb, hlc, hcm, hsz, hw, hc⟩
  ·rw [h0] at hH'; cases hH'
  ·rw [hH] at hH'
   simp only [Value.slice.injEq, Option.some.injEq, Addr.mk.injEq, and_true] at hH'
   obtain ⟨rfl, _, _⟩ := hH'
   have h1 : ∀ z, z ∈ (a.eval y).cells.toList → z.oneCell' = true := by
    intro z hz
    obtain ⟨i, hi⟩ := List.getElem?_of_mem hz
    have hlt : i < r'.length := by rw [← v1]; have := (List.getElem?_eq_some_iff.1 hi).1; simpa using this
    obtain ⟨z', hz', _, ho'⟩ := v2 i (.d r'[i]) (by rw [List.getElem?_map, List.getElem?_eq_getElem hlt]; rfl)
    have : z = z' := by simpa [hz'] using hi.symm
    rw [this]; exact ho'
   have hvl : (a.eval y).cells.toList.length = ([r'] : List (List D)).length * k := by simp [v1, hrk]
   obtain ⟨c1, c2, c3⟩ := MHold.setCells (new := [r']) (vs := (a.eval y).cells.toList) (lo := i) hH hB hO hb hlc hcm hsz hw hc (by simp; omega) hvl (fun r hr => by simp at hr; rw [hr]; exact hrk) (fun i' r j d hi' hj => by
    have : i' = 0 := by have := (List.getElem?_eq_some_iff.1 hi').1; simp at this; omega
    subst this
    simp at hi'; subst hi'
    obtain ⟨z, hz, hrz, hoz⟩ := v2 j (.d d) (by rw [List.getElem?_map, hj]; rfl)
    refine ⟨z, by simpa using hz, ?_, hoz⟩
    cases hrz with
    | d _ _ hd => exact hd) h1
   have hfit : i * k + k ≤ xs.size := by
    rw [hsz]
    have := Nat.mul_le_mul_right k (show i + 1 ≤ cap by omega)
    rw [Nat.succ_mul] at this; exact this
   have hrun := run_storeVar ht (off := i * k) (v := a.eval y) hb (by rw [v1, hrk]) hfit h1
   unfold Oper.wp
   have e0 : i * k + 0 = i * k := rfl
   simp only [execOp, ho, hxa, e0, Instr.storeAt, Instr.sureAddr, Sem.run_bind, Sem.run_pure, Result.andThen_ok, hrun, Oper.upon_skip]
   have hl : (a.eval y).cells.toList.length = k := by simp [v1, hrk]
   rw [hl] at c1 c2 c3
   refine hK _ _ c1 c2 ?_ (.u _)
   simpa using c3
theorem TrOps.ofSt0 {h : Nat} {m m' : Mo} (hst : OpSt P w0.heap.size o e h m m' s) (hM : look M h = some m) (hg : o.guard = none) (hd : o.dst = none)
  (hn : TrOps P N w0 O0 ops Q e ((h, m') :: M) rest) : TrOps P N w0 O0 ops Q e M (o :: rest) := by
 intro O H a w h0
 refine wpList_plain hg fun K hK => Oper.wp_false (hst O H a w h0.bl.size (h0.slotsAt _) (h0.mem h m hM) _ fun w' x h1 h2 h3 h4 => hK _ _ (hn O H _ _ ⟨?_, ?_, h0.bl.trans (h2.mono (Nat.le_refl _)), h0.lab, ?_, fun h' mm hm => ?_⟩)) _
 ·rw [hd]; exact h0.df
 ·rw [hd]; exact h0.sz
 ·rw [hd]
  intro n s' hs'
  obtain ⟨z, hz, hr⟩ := h0.slots n s' hs'
  exact ⟨z, hz, hr.mono0 h1⟩
 ·rcases look_cons hm with ⟨rfl, rfl⟩ | ⟨hne, hm⟩
  ·exact h3
  ·exact (h0.mem h' mm hm).mono h1 (by intro e; cases e; exact hne rfl) (by simp) 0 (fun h he => by cases he) (.inl rfl)
theorem OpSem.cutO {t k T h : Nat} {x l : Operand} {rows : List (List D)} {kk : IntKind} {n : Int} (ho : o.op = .slice t x none (some l) none) (hx : opS e x = some (.o h)) (hM : look M h = some (.own k T rows)) (hl : opS e l = some (.d (.v (.int kk n))))
  (ht : esz P t = some k) (h0 : 0 ≤ n) (h1 : n ≤ rows.length) (h2 : 0 < rows.length) : OpSem P B o e M (.o h) (some (h, .own k T (rows.take n.toNat))) := by
 intro O H a w hB hs hms K hK
 have hx' := hs x (by simp [ho, Op.operands]) _ hx
 have hl' := hs l (by simp [ho, Op.operands]) _ hl
 obtain ⟨b, cap, xs, g1, g2, g3, g4, g5, g6, g7, g8, g9⟩ := (hms h _ hM).ownSome h2
 generalize hv : a.eval x = v at hx'
 generalize hu : a.eval l = u at hl'
 cases hl' with
 | d _ _ hl' => cases hl' with
  | v _ => cases hx' with
   | o h h1' =>
    rw [g1] at hv
    have hrun : (execOp a.eval o).run P w = .ok (.value (.slice (some ⟨b, 0, none⟩) n.toNat cap)) w := by
     have := run_slice_h (P := P) w t (some ⟨b, 0, none⟩) rows.length cap (esz_spec ht).1 kk n h0 (by omega)
     simp only [execOp, ho, hv, hu, Option.map_some, Option.map_none, Sem.run_bind, run_sliceAt_slice w t _ _ _ _ (esz_spec ht).1, this, run_sizeElem ht, Result.andThen_ok, Sem.run_pure]
     unfold sliced
     simp [Addr.add_zero']
    unfold Oper.wp
    rw [hrun]
    obtain ⟨H', hH'⟩ : ∃ H' : Nat → Value, H' = fun m => if m = h then (.slice (some ⟨b, 0, none⟩) n.toNat cap : Value) else H m := ⟨_, rfl⟩
    have hh : H' h = .slice (some ⟨b, 0, none⟩) n.toNat cap := by rw [hH']; simp
    have hk : Keep none (some h) O H w O H' w := ⟨fun _ _ => rfl, fun _ _ _ => rfl, fun m hm => by rw [hH']; simp; intro e; subst e; exact (hm rfl).elim⟩
    have hrep := RepS.o (O := O) (H := H') (w := w) h (by rw [hh]; rfl)
    rw [hh] at hrep
    refine hK O H' w _ hk (.refl _ _) hrep (fun h' m he => ?_)
    simp only [Option.some.injEq, Prod.mk.injEq] at he
    obtain ⟨rfl, rfl⟩ := he
    have hlen : (rows.take n.toNat).length = n.toNat := by simp; omega
    refine .inr ⟨b, cap, xs, by rw [hlen]; exact hh, g2, g3, g4, by rw [hlen]; omega, g6, g7, fun r hr => g8 r (List.mem_of_mem_take hr), fun i r j d hi hj => ?_⟩
    have hin : i < n.toNat := by have := (List.getElem?_eq_some_iff.1 hi).1; omega
    rw [List.getElem?_take_of_lt hin] at hi
    exact g9 i r j d hi hj
end
end Go.Eng
end

section
namespace Go.Eng
open Go.RowKit (Below)
section
variable {P : Program}
variable {B : Nat} {o : Oper} {e : Env} {M : Mem}
end
end Go.Eng
end

section
namespace Go.Eng
open Go.RowKit (Below)
section
variable {P : Program} {B : Nat} {o : Oper} {e : Env} {M : Mem}
end
section
variable {P : Program} {N : Nat} {w0 : World} {O0 : Nat → Nat} {ops : Array Oper} {Q : Post} {e : Env} {M : Mem} {rest : List Oper} {o : Oper} {c : Code}
theorem St.memSet {h : Nat} {m : Mo} {O : Nat → Nat} {H : Nat → Value} {a : Act} {w : World} (hst : St N w0 O0 e M O H a w) (hm : MHold O H w0.heap.size w h m) : St N w0 O0 e ((h, m) :: M) O H a w :=
 ⟨hst.df, hst.sz, hst.bl, hst.lab, hst.slots, fun n m' hm' => by
  rcases look_cons hm' with ⟨rfl, rfl⟩ | ⟨_, hm'⟩
  ·exact hm
  ·exact hst.mem n m' hm'⟩
end
end Go.Eng
end

section
namespace Go.Eng
open Go.RowKit (Below)
inductive DropRs (ds : List Nat) : Env → Env → Prop
 | nil : DropRs ds [] []
 | hit {n : Nat} {s : S} {e e2 : Env} (h : (ds.any fun d => Nat.beq n d) = true) : DropRs ds e e2 → DropRs ds ((n, s) :: e) e2
 | miss {n : Nat} {s : S} {e e2 : Env} (h : (ds.any fun d => Nat.beq n d) = false) : DropRs ds e e2 → DropRs ds ((n, s) :: e) ((n, s) :: e2)
theorem DropRs.look {ds : List Nat} {e e2 : Env} (hd : DropRs ds e e2) : ∀ {n : Nat} {s : S}, look e2 n = some s → n ∉ ds ∧ look e n = some s := by
 induction hd with
 | nil => intro n s h; simp [Eng.look] at h
 | @hit m t e e2 h _ ih =>
  intro n s hl
  obtain ⟨h1, h2⟩ := ih hl
  refine ⟨h1, ?_⟩
  simp only [Eng.look]
  have : Nat.beq m n = false := by
   cases hb : Nat.beq m n with
   | false => rfl
   | true =>
    rw [Nat.eq_of_beq_eq_true hb] at h
    obtain ⟨d, hd, he⟩ := List.any_eq_true.1 h
    rw [Nat.eq_of_beq_eq_true he] at h1
    exact absurd hd h1
  rw [this]; exact h2
 | @miss m t e e2 h _ ih =>
  intro n s hl
  rcases look_cons hl with ⟨rfl, rfl⟩ | ⟨hne, hl⟩
  ·refine ⟨fun hm => ?_, look_cons_same _ _ _⟩
   have : (ds.any fun d => Nat.beq n d) = true := List.any_eq_true.2 ⟨n, hm, by simp⟩
   rw [h] at this; cases this
  ·obtain ⟨h1, h2⟩ := ih hl
   refine ⟨h1, ?_⟩
   simp only [Eng.look]
   have : Nat.beq m n = false := by cases hb : Nat.beq m n with
    | false => rfl
    | true => exact (hne (Nat.eq_of_beq_eq_true hb).symm).elim
   rw [this]; exact h2
section
variable {P : Program} {N : Nat} {w0 : World} {O0 : Nat → Nat} {ops : Array Oper} {Q : Post} {e0 e : Env} {M0 M : Mem} {hs : List Nat} {o : Oper}
def nrm (R : Act → World → Prop) : Post := fun x a w => x = .normal ∧ R a w
theorem Oper.wp_nrm {K R : Act → World → Prop} {a : Act} {w : World} (h : o.wp P a w K (nrm R)) (Q : Post) : o.wp P a w K Q := by
 unfold Oper.wp at *
 generalize (execOp a.eval o).run P w = r at *
 cases r with
 | ok n w' =>
  cases n <;> simp only [Oper.upon] at h ⊢ <;> first
   | exact h
   | exact Calls.mono h (fun e w'' he => by
     cases e with
     | returned v => exact he
     | panicked c => exact nomatch he.1
     | outgrown => obtain ⟨_, _, h, _⟩ := he; exact nomatch h)
 | halt x w' => cases x <;> simp only [Oper.upon] at h ⊢ <;> first | exact nomatch h.1 | exact h
theorem wp1 {R : Act → World → Prop} {a : Act} {w : World} {i : Nat} (ho : ops[i]? = some o) (h : wpList P ops (nrm R) [o] a w) : wpOp P ops Q i R a w := by
 unfold wpOp
 simp only [ho]
 unfold wpList at h
 split
 ·rename_i hw
  rw [if_pos hw] at h
  rcases h with h | ⟨_, _, _, h, _⟩
  ·exact .inl (Oper.wp_mono (fun a w h => h.2) (Oper.wp_nrm h Q))
  ·exact nomatch h
 ·rename_i hw
  rw [if_neg hw] at h
  exact h.2
def wpSet (P : Program) (ops : Array Oper) (Q : Post) (tail : List Oper) : Nat → List Nat → Act → World → Prop
 | 0, _, a, w => wpList P ops Q tail a w
 | n + 1, F, a, w => ∀ i, i ∈ F → (∀ j, j ∈ F → prec ops 9 i j = false) → wpOp P ops Q i (wpSet P ops Q tail n (F.erase i)) a w
def TrSet (P : Program) (N : Nat) (w0 : World) (O0 : Nat → Nat) (ops : Array Oper) (Q : Post) (tail : List Oper) (n : Nat) (F : List Nat) (e : Env) (M : Mem) : Prop :=
 ∀ (O : Nat → Nat) (H : Nat → Value) (a : Act) (w : World), St N w0 O0 e M O H a w → wpSet P ops Q tail n F a w
def TrI (P : Program) (N : Nat) (w0 : World) (O0 : Nat → Nat) (ops : Array Oper) (Q : Post) (tail : List Oper) (n : Nat) (F : List Nat) (e : Env) (M : Mem) (i : Nat) : Prop :=
 ∀ (O : Nat → Nat) (H : Nat → Value) (a : Act) (w : World), St N w0 O0 e M O H a w → wpOp P ops Q i (wpSet P ops Q tail n (F.erase i)) a w
def EachI (R : Nat → Prop) : List Nat → Prop
 | [] => True
 | i :: r => R i ∧ EachI R r
theorem EachI.get {R : Nat → Prop} : ∀ {l : List Nat} {i : Nat}, EachI R l → i ∈ l → R i
 | _ :: _, _, h, hi => by
  rcases List.mem_cons.1 hi with rfl | hi
  ·exact h.1
  ·exact EachI.get h.2 hi
variable {tail : List Oper} {n : Nat} {F : List Nat}
theorem TrSet.zero (h : TrOps P N w0 O0 ops Q e M tail) : TrSet P N w0 O0 ops Q tail 0 F e M := h
theorem TrSet.succ (h : EachI (fun i => (F.any fun j => prec ops 9 i j) = true ∨ TrI P N w0 O0 ops Q tail n F e M i) F) : TrSet P N w0 O0 ops Q tail (n + 1) F e M := fun O H a w hst i hi hp => by
 rcases h.get hi with hb | hb
 ·obtain ⟨j, hj, he⟩ := List.any_eq_true.1 hb
  rw [hp j hj] at he; cases he
 ·exact hb O H a w hst
theorem TrSet.start (h : TrSet P N w0 O0 ops Q tail n F e M) : TrOps P N w0 O0 ops (nrm (wpSet P ops Q tail n F)) e M [] := fun O H a w hst => ⟨rfl, h O H a w hst⟩
theorem TrI.sem {i d : Nat} {s : S} {F' : List Nat} (ho : ops[i]? = some o) (hsem : OpSem P w0.heap.size o e M s none) (hg : o.guard = none) (hd : o.dst = some d) (hdN : d < N) (hF : F.erase i = F')
  (h : TrSet P N w0 O0 ops Q tail n F' ((d, s) :: e) M) : TrI P N w0 O0 ops Q tail n F e M i := fun O H a w hst => by
 subst hF
 exact wp1 ho (TrOps.sem (Q := nrm (wpSet P ops Q tail n (F.erase i))) hsem hg hd hdN (TrSet.start h) O H a w hst)
def parOkS (ops : Array Oper) (k : Nat) (F : List Nat) : Bool :=
 let ds : List (Option Nat) := ops.toList.map (·.dst)
 (F.all fun f => decide (f < k)) && (List.range ops.size).all fun i => match ops[i]? with
  | none => false
  | some o =>
   (o.after.all fun e => !(Region.binds .any e) || decide (e.on < i)) &&
   (if i < k then
    (List.range k).all fun j => match ds.getD j none with
     | some d => (i == j || o.dst != some d) && (!((tmpsOf ops o).contains d) || (decide (j < i) && prec ops 9 i j) || (decide (i < j) && prec ops 9 j i))
     | none => true
   else (List.range i).all fun j => (i == k && F.contains j) || prec ops 9 i j)
theorem parOkS_hd {ops : Array Oper} {k : Nat} {F : List Nat} (hok : parOkS ops k F = true) : ParHd ops k := by
 intro i o hik ho
 unfold parOkS at hok
 simp only [Bool.and_eq_true, List.all_eq_true, List.mem_range] at hok
 have := hok.2 i (Array.getElem?_eq_some_iff.1 ho).1
 simp only [ho, hik, if_true, Bool.and_eq_true] at this
 exact this.2
def subsets : List Nat → List (List Nat)
 | [] => [[]]
 | x :: l => subsets l ++ (subsets l).map (x :: ·)
theorem filter_sub {p : Nat → Bool} : ∀ {l : List Nat}, l.filter p ∈ subsets l
 | [] => by simp [subsets]
 | x :: l => by
  have ih := filter_sub (p := p) (l := l)
  simp only [subsets, List.mem_append, List.mem_map, List.filter_cons]
  split
  ·exact .inr ⟨_, ih, rfl⟩
  ·exact .inl ih
def slotOf (ps : List PO) (i : Nat) : Nat := ((ps[i]?).map PO.d).getD 0
def pureOk (ps : List PO) (F : List Nat) : Bool := F.all fun f => match ps[f]? with | some p => p.st.isNone && p.mo.isNone && p.ds | none => false
theorem par_set {k : Nat} {F : List Nat} {ps : List PO} {ok : Oper} {M1 : Mem} (hpw : PW P w0.heap.size ops hs M0 (ops.toList.take k) ps e0) (hk : k ≤ ops.size) (hok : parOkS ops k F = true) (hh : handOk e0 M0 ps = true) (hso : stOk hs ps = true) (hN : ∀ p, p ∈ ps → p.ds = true → p.d < N)
  (hpu : pureOk ps F = true) (hnd : F.Nodup) (hokk : ops[k]? = some ok)
  (htl : ∀ F', F' ∈ subsets F → ∃ e2, DropRs (F'.map (slotOf ps)) (finE e0 ps) e2 ∧ TrOps P N w0 O0 ops (nrm (wpSet P ops Q (ops.toList.drop (k + 1)) F'.length F')) e2 (finM M0 ps) [ok]) :
  ∀ (fuel : Nat) (L : Array Bool) (a : Act) (w : World), L.size = ops.size → (∀ i, i < ops.size → L.getD i false = false → fuel ≠ 0) → ((List.range ops.size).filter fun i => !L.getD i false).length ≤ fuel →
   (∀ i, L.getD i false = true → ∀ o, ops[i]? = some o → ∀ e, e ∈ o.after → Region.binds .any e = true → L.getD e.on false = true) →
   ((∃ O H, PSt N w0 O0 e0 hs M0 ps L O H a w ∧ ∀ i, k ≤ i → L.getD i false = false) ∨ (∃ i0, k + 1 ≤ i0 ∧ (∀ i, i < ops.size → (L.getD i false = true ↔ i < i0)) ∧ i0 ≤ ops.size ∧ wpList P ops Q (ops.toList.drop i0) a w) ∨ (∃ F' : List Nat, F'.Nodup ∧ (∀ f, f ∈ F' → f < k) ∧ (∀ i, i < ops.size → (L.getD i false = true ↔ (i < k + 1 ∧ i ∉ F'))) ∧ wpSet P ops Q (ops.toList.drop (k + 1)) F'.length F' a w)) →
   wpAny P .any ops Q fuel L a w := by
 have hops : ∀ i, i < ops.size → ∃ o, ops[i]? = some o := fun i hi => ⟨ops[i], Array.getElem?_eq_getElem hi⟩
 have hfk : ∀ f, f ∈ F → f < k := by unfold parOkS at hok; simp only [Bool.and_eq_true, List.all_eq_true, decide_eq_true_eq] at hok; exact hok.1
 have hkn : k < ops.size := (Array.getElem?_eq_some_iff.1 hokk).1
 have hlenp : ps.length = k := by have := hpw.get.1; rw [← this]; simp; omega
 have hpure : ∀ f p, f ∈ F → ps[f]? = some p → p.st = none ∧ p.mo = none ∧ p.ds = true := by
  intro f p hf hp
  have := List.all_eq_true.1 hpu f hf
  simp only [hp, Bool.and_eq_true, Option.isNone_iff_eq_none] at this
  exact ⟨this.1.1, this.1.2, this.2⟩
 have hchk : ∀ i o, ops[i]? = some o → (∀ e, e ∈ o.after → Region.binds .any e = true → e.on < i) ∧ (k ≤ i → ∀ j, j < i → ¬ (i = k ∧ j ∈ F) → prec ops 9 i j = true) := by
  intro i o ho
  have hi : i < ops.size := (Array.getElem?_eq_some_iff.1 ho).1
  unfold parOkS at hok
  simp only [Bool.and_eq_true, List.all_eq_true, List.mem_range] at hok
  have := hok.2 i hi
  simp only [ho, Bool.and_eq_true] at this
  obtain ⟨h1, h2⟩ := this
  refine ⟨fun e he hb => ?_, fun hki j hj hne => ?_⟩
  ·have := Array.all_eq_true'.1 h1 e he
   simp only [hb, Bool.not_true, Bool.false_or, decide_eq_true_eq] at this
   exact this
  ·rw [if_neg (by omega)] at h2
   have h3 := List.all_eq_true.1 h2 j (List.mem_range.2 hj)
   simp only [Bool.or_eq_true, Bool.and_eq_true, beq_iff_eq, List.contains_iff_mem] at h3
   exact h3.resolve_left hne
 have turnS : ∀ (L : Array Bool) (a : Act) (w : World) (F' : List Nat), L.size = ops.size → F' ∈ subsets F → (∀ f, f ∈ F' → f ∈ F) → (∀ i, i < k → i ∉ F' → L.getD i false = true) → (∃ O H, PSt N w0 O0 e0 hs M0 ps L O H a w) →
   wpList P ops (nrm (wpSet P ops Q (ops.toList.drop (k + 1)) F'.length F')) [ok] a w := by
  rintro L a w F' hL hF' hsub h1 ⟨O, H, hst⟩
  obtain ⟨e2, hd, ht⟩ := htl F' hF'
  refine ht O H a w ⟨hst.df, hst.sz, hst.bl, hst.lab, fun n s hs => ?_, fun h m hm => ?_⟩
  ·obtain ⟨hn, hs⟩ := hd.look hs
   rcases look_finE hs with ⟨i, p, hp, hps, rfl, rfl⟩ | ⟨h1', h2'⟩
   ·have hik : i < k := by rw [← hlenp]; exact (List.getElem?_eq_some_iff.1 hp).1
    refine hst.new i p hp hps (h1 i hik fun hi => hn (List.mem_map.2 ⟨i, hi, ?_⟩))
    simp [slotOf, hp]
   ·exact hst.old n s h2' (fun j p hj hs he => absurd he (h1' p (List.mem_of_getElem? hj) hs))
  ·rcases look_finM hm with ⟨i, p, hp, hps, hmo⟩ | ⟨i, p, m0, hp, hps⟩ | ⟨hns, hm⟩
   ·have hik : i < k := by rw [← hlenp]; exact (List.getElem?_eq_some_iff.1 hp).1
    refine hst.mnew i p h m hp (h1 i hik fun hi => ?_) hps hmo
    rw [(hpure i p (hsub i hi) hp).2.1] at hmo; cases hmo
   ·have hik : i < k := by rw [← hlenp]; exact (List.getElem?_eq_some_iff.1 hp).1
    have := hst.sto i p h m0 m hp hps
    rwa [if_pos (h1 i hik fun hi => by rw [(hpure i p (hsub i hi) hp).1] at hps; cases hps)] at this
   ·refine hst.mold h m (look_dropM_of (fun hin => ?_) hm)
    unfold stOk at hso
    simp only [Bool.and_eq_true] at hso
    obtain ⟨p, hp, he⟩ := List.any_eq_true.1 (List.all_eq_true.1 hso.2 h hin)
    cases hps : p.st with
    | none => rw [hps] at he; cases he
    | some x =>
     obtain ⟨h', m0, m1⟩ := x
     rw [hps] at he
     exact hns p hp h' m0 m1 hps (Nat.eq_of_beq_eq_true he)
 have hrd : ∀ (L : Array Bool) (i : Nat), L.size = ops.size → i ∈ Region.ready .any ops L → i < ops.size ∧ L.getD i false = false ∧ ∀ o, ops[i]? = some o → ∀ e, e ∈ o.after → Region.binds .any e = true → L.getD e.on false = true := by
  intro L i hL hi
  unfold Region.ready at hi
  rw [List.mem_filter] at hi
  obtain ⟨h1, h2⟩ := hi
  rw [List.mem_range] at h1
  simp only [Bool.and_eq_true, Bool.not_eq_true'] at h2
  obtain ⟨h2, h3⟩ := h2
  refine ⟨h1, ?_, fun o ho e he hb => ?_⟩
  ·simpa [Array.getD_eq_getD_getElem?, Array.getElem?_eq_getElem (by omega : i < L.size)] using h2
  ·simp only [ho, Option.map_some, Option.getD_some] at h3
   have := Array.all_eq_true'.1 h3 e he
   simpa [hb] using this
 have hnone : ∀ (L : Array Bool), L.size = ops.size → Region.ready .any ops L = [] → ∀ i, i < ops.size → L.getD i false = true := by
  intro L hL hr i
  induction i using Nat.strongRecOn with
  | _ i ih =>
   intro hi
   cases hl : L.getD i false with
   | true => rfl
   | false =>
    exfalso
    obtain ⟨o, ho⟩ := hops i hi
    have : i ∈ Region.ready .any ops L := by
     unfold Region.ready
     rw [List.mem_filter]
     refine ⟨List.mem_range.2 hi, ?_⟩
     simp only [Bool.and_eq_true, Bool.not_eq_true']
     refine ⟨by simpa [Array.getD_eq_getD_getElem?, Array.getElem?_eq_getElem (by omega : i < L.size)] using hl, ?_⟩
     simp only [ho, Option.map_some, Option.getD_some, Array.all_eq_true', Bool.or_eq_true, Bool.not_eq_true']
     intro e he
     by_cases hb : Region.binds .any e = true
     ·exact .inr (ih e.on ((hchk i o ho).1 e he hb) (by have := (hchk i o ho).1 e he hb; omega))
     ·exact .inl (by simpa using hb)
    rw [hr] at this; cases this
 have hcl' : ∀ (L : Array Bool) (i : Nat), L.size = ops.size → i < ops.size → (∀ i, L.getD i false = true → ∀ o, ops[i]? = some o → ∀ e, e ∈ o.after → Region.binds .any e = true → L.getD e.on false = true) → (∀ o, ops[i]? = some o → ∀ e, e ∈ o.after → Region.binds .any e = true → L.getD e.on false = true) →
   ∀ j, (L.setIfInBounds i true).getD j false = true → ∀ o, ops[j]? = some o → ∀ e, e ∈ o.after → Region.binds .any e = true → (L.setIfInBounds i true).getD e.on false = true := by
  intro L i hL hi hcl hr j hj o ho e he hb
  rw [getD_set (by omega)] at hj ⊢
  split
  ·rfl
  ·by_cases hji : j = i
   ·subst hji; exact hr o ho e he hb
   ·rw [if_neg hji] at hj; exact hcl j hj o ho e he hb
 have hcount : ∀ (L : Array Bool) (i n : Nat), L.size = ops.size → i < ops.size → L.getD i false = false → ((List.range ops.size).filter fun i => !L.getD i false).length ≤ n + 1 → ((List.range ops.size).filter fun j => !(L.setIfInBounds i true).getD j false).length ≤ n := by
  intro L i n hL hi hl hc
  have : ((List.range ops.size).filter fun j => !(L.setIfInBounds i true).getD j false) = ((List.range ops.size).filter fun j => !L.getD j false).filter (fun j => j != i) := by
   rw [List.filter_filter]
   apply List.filter_congr
   intro j _
   rw [getD_set (by omega)]
   by_cases h : j = i <;> simp [h]
  rw [this]
  have hlt : (((List.range ops.size).filter fun j => !L.getD j false).filter (fun j => j != i)).length < ((List.range ops.size).filter fun j => !L.getD j false).length := by
   rw [List.length_filter_lt_length_iff_exists]
   exact ⟨i, List.mem_filter.2 ⟨List.mem_range.2 hi, by rw [hl]; rfl⟩, by simp⟩
  omega
 have fin : ∀ (L : Array Bool) (a : Act) (w : World), (∀ i, i < ops.size → L.getD i false = true) → ((∃ O H, PSt N w0 O0 e0 hs M0 ps L O H a w ∧ ∀ i, k ≤ i → L.getD i false = false) ∨ (∃ i0, k + 1 ≤ i0 ∧ (∀ i, i < ops.size → (L.getD i false = true ↔ i < i0)) ∧ i0 ≤ ops.size ∧ wpList P ops Q (ops.toList.drop i0) a w) ∨ (∃ F' : List Nat, F'.Nodup ∧ (∀ f, f ∈ F' → f < k) ∧ (∀ i, i < ops.size → (L.getD i false = true ↔ (i < k + 1 ∧ i ∉ F'))) ∧ wpSet P ops Q (ops.toList.drop (k + 1)) F'.length F' a w)) → Q .normal a w := by
  intro L a w hall hJ
  rcases hJ with ⟨O, H, hst, htail⟩ | ⟨i0, h1, h2, h3, h4⟩ | ⟨F', _, h2, h3, h4⟩
  ·have := htail k (Nat.le_refl _); rw [hall k hkn] at this; cases this
  ·have : i0 = ops.size := by
    rcases Nat.lt_or_ge i0 ops.size with h | h
    ·have := (h2 i0 h).1 (hall i0 h); omega
    ·omega
   rw [List.drop_eq_nil_of_le (by simp; omega)] at h4
   exact h4
  ·have hnil : F' = [] := by
    cases F' with
    | nil => rfl
    | cons f r => exact absurd (List.mem_cons_self) ((h3 f (by have := h2 f List.mem_cons_self; omega)).1 (hall f (by have := h2 f List.mem_cons_self; omega))).2
   subst hnil
   have : ops.size = k + 1 := by
    rcases Nat.lt_or_ge (k + 1) ops.size with h | h
    ·have := ((h3 (k + 1) h).1 (hall (k + 1) h)).1; omega
    ·omega
   have h5 : wpList P ops Q (ops.toList.drop (k + 1)) a w := h4
   rw [List.drop_eq_nil_of_le (by simp; omega)] at h5
   exact h5
 intro fuel
 induction fuel with
 | zero =>
  intro L a w hL hf hc hcl hJ
  have hall : ∀ i, i < ops.size → L.getD i false = true := fun i hi => by
   cases hl : L.getD i false with
   | true => rfl
   | false => exact absurd rfl (hf i hi hl)
  refine ⟨?_, fin L a w hall hJ⟩
  rw [List.eq_nil_iff_forall_not_mem]
  intro i hi
  obtain ⟨h1, h2, _⟩ := hrd L i hL hi
  rw [hall i h1] at h2; cases h2
 | succ fuel ih =>
  intro L a w hL hf hc hcl hJ
  have next : ∀ (i : Nat) (a' : Act) (w' : World), i < ops.size → L.getD i false = false → (∀ o, ops[i]? = some o → ∀ e, e ∈ o.after → Region.binds .any e = true → L.getD e.on false = true) →
    ((∃ O H, PSt N w0 O0 e0 hs M0 ps (L.setIfInBounds i true) O H a' w' ∧ ∀ j, k ≤ j → (L.setIfInBounds i true).getD j false = false) ∨ (∃ i0, k + 1 ≤ i0 ∧ (∀ j, j < ops.size → ((L.setIfInBounds i true).getD j false = true ↔ j < i0)) ∧ i0 ≤ ops.size ∧ wpList P ops Q (ops.toList.drop i0) a' w') ∨ (∃ F' : List Nat, F'.Nodup ∧ (∀ f, f ∈ F' → f < k) ∧ (∀ j, j < ops.size → ((L.setIfInBounds i true).getD j false = true ↔ (j < k + 1 ∧ j ∉ F'))) ∧ wpSet P ops Q (ops.toList.drop (k + 1)) F'.length F' a' w')) →
    wpAny P .any ops Q fuel (L.setIfInBounds i true) a' w' := by
   intro i a' w' hi hl hr hJ'
   have hcc := hcount L i fuel hL hi hl hc
   refine ih _ a' w' (by simpa using hL) (fun j hj hlj h0 => ?_) hcc (hcl' L i hL hi hcl hr) hJ'
   subst h0
   have : ((List.range ops.size).filter fun j => !(L.setIfInBounds i true).getD j false) = [] := List.eq_nil_of_length_eq_zero (by omega)
   have hm : j ∈ ((List.range ops.size).filter fun j => !(L.setIfInBounds i true).getD j false) := List.mem_filter.2 ⟨List.mem_range.2 hj, by rw [hlj]; rfl⟩
   rw [this] at hm; cases hm
  have tail : ∀ (i0 : Nat), k + 1 ≤ i0 → (∀ i, i < ops.size → (L.getD i false = true ↔ i < i0)) → i0 ≤ ops.size → wpList P ops Q (ops.toList.drop i0) a w → ∀ i, i ∈ Region.ready .any ops L → wpOp P ops Q i (wpAny P .any ops Q fuel (L.setIfInBounds i true)) a w := by
   intro i0 h1 h2 h3 h4 i hi
   obtain ⟨hi1, hi2, hi3⟩ := hrd L i hL hi
   obtain ⟨o, ho⟩ := hops i hi1
   have hge : i0 ≤ i := by
    rcases Nat.lt_or_ge i i0 with h | h
    ·have := (h2 i hi1).2 h; rw [hi2] at this; cases this
    ·exact h
   have hall : ∀ j, j < i → L.getD j false = true := fun j hj => prec_closed hcl 9 i j ((hchk i o ho).2 (by omega) j hj (fun h => by omega)) hi3
   have hii : i = i0 := by
    rcases Nat.lt_or_ge i0 i with h | h
    ·have := (h2 i0 (by omega)).1 (hall i0 h); omega
    ·omega
   subst hii
   have hd : ops.toList.drop i = o :: ops.toList.drop (i + 1) := by
    rw [List.drop_eq_getElem_cons (by simpa using hi1)]
    congr 1
    have := (Array.getElem?_eq_some_iff.1 ho).2
    simpa using this
   rw [hd] at h4
   have hK : ∀ a' w', wpList P ops Q (ops.toList.drop (i + 1)) a' w' → wpAny P .any ops Q fuel (L.setIfInBounds i true) a' w' := fun a' w' hw' =>
    next i a' w' hi1 hi2 hi3 (.inr (.inl ⟨i + 1, by omega, fun j hj => by
     rw [getD_set (by omega)]
     by_cases hji : j = i
     ·simp [hji]
     ·rw [if_neg hji, h2 j hj]; omega, by omega, hw'⟩))
   unfold wpOp
   simp only [ho]
   simp only [wpList] at h4
   split
   ·rename_i hw
    rw [if_pos hw] at h4
    exact h4.imp (Oper.wp_mono hK) id
   ·rename_i hw
    rw [if_neg hw] at h4
    exact hK _ _ h4
  have opMono : ∀ (i : Nat) (R : Act → World → Prop), (∀ a' w', R a' w' → wpAny P .any ops Q fuel (L.setIfInBounds i true) a' w') → wpOp P ops Q i R a w → wpOp P ops Q i (wpAny P .any ops Q fuel (L.setIfInBounds i true)) a w := by
   intro i R hR h4
   unfold wpOp at h4 ⊢
   split
   ·rename_i hn
    simp only [hn] at h4
    exact hR _ _ h4
   ·rename_i o ho
    simp only [ho] at h4
    split
    ·rename_i hw
     rw [if_pos hw] at h4
     exact h4.imp (Oper.wp_mono hR) id
    ·rename_i hw
     rw [if_neg hw] at h4
     exact hR _ _ h4
  refine ⟨fun hr => fin L a w (hnone L hL hr) hJ, fun i hi => ?_⟩
  obtain ⟨hi1, hi2, hi3⟩ := hrd L i hL hi
  obtain ⟨o, ho⟩ := hops i hi1
  rcases hJ with ⟨O, H, hst, htail⟩ | ⟨i0, h1, h2, h3, h4⟩ | ⟨F', hnd', h2, h3, h4⟩
  ·rcases Nat.lt_or_ge i k with hik | hik
   ·refine PSt.step hpw hk (parOkS_hd hok) hh hso hL hcl hst hik ho (hi3 o ho) hi2 hN _ fun O' H' a' w' hst' => ?_
    refine next i a' w' hi1 hi2 hi3 (.inl ⟨O', H', hst', fun j hj => ?_⟩)
    rw [getD_set (by omega), if_neg (by omega)]
    exact htail j hj
   ·have hik' : i = k := by
     rcases Nat.lt_or_ge k i with h | h
     ·have := prec_closed hcl 9 i k ((hchk i o ho).2 hik k h (fun hh => by omega)) hi3
      rw [htail k (Nat.le_refl _)] at this; cases this
     ·omega
    subst hik'
    have hall : ∀ j, j < i → j ∉ F.filter (fun j => !L.getD j false) → L.getD j false = true := fun j hj hjf => by
     by_cases hjF : j ∈ F
     ·cases hlj : L.getD j false with
      | true => rfl
      | false => exact absurd (List.mem_filter.2 ⟨hjF, by simp [hlj]⟩) hjf
     ·exact prec_closed hcl 9 i j ((hchk i o ho).2 hik j hj (fun h => hjF h.2)) hi3
    have h4 := turnS L a w (F.filter fun j => !L.getD j false) hL filter_sub (fun f hf => (List.mem_filter.1 hf).1) hall ⟨O, H, hst⟩
    refine opMono i _ (fun a' w' hw' => ?_) (wp1 hokk h4)
    refine next i a' w' hi1 hi2 hi3 (.inr (.inr ⟨_, hnd.filter _, fun f hf => hfk f (List.mem_filter.1 hf).1, fun j hj => ?_, hw'⟩))
    rw [getD_set (by omega)]
    by_cases hji : j = i
    ·subst hji
     simp only [if_true, true_iff]
     exact ⟨by omega, fun hm => by have := hfk j (List.mem_filter.1 hm).1; omega⟩
    ·rw [if_neg hji]
     constructor
     ·intro hlj
      rcases Nat.lt_or_ge j i with h | h
      ·exact ⟨by omega, fun hm => by have := (List.mem_filter.1 hm).2; rw [hlj] at this; cases this⟩
      ·rw [htail j h] at hlj; cases hlj
     ·rintro ⟨h5, h6⟩
      exact hall j (by omega) h6
  ·exact tail i0 h1 h2 h3 h4 i hi
  ·by_cases hif : i ∈ F'
   ·obtain ⟨m, hm⟩ : ∃ m, F'.length = m + 1 := by
     cases F' with
     | nil => cases hif
     | cons _ r => exact ⟨r.length, rfl⟩
    rw [hm] at h4
    have h5 := h4 i hif (fun j hj => by
     cases hp : prec ops 9 i j with
     | false => rfl
     | true => exact absurd hj ((h3 j (by have := h2 j hj; omega)).1 (prec_closed hcl 9 i j hp hi3)).2)
    refine opMono i _ (fun a' w' hw' => ?_) h5
    refine next i a' w' hi1 hi2 hi3 (.inr (.inr ⟨F'.erase i, hnd'.erase i, fun f hf => h2 f (List.mem_of_mem_erase hf), fun j hj => ?_, ?_⟩))
    ·rw [getD_set (by omega), hnd'.mem_erase_iff]
     by_cases hji : j = i
     ·subst hji
      have := h2 j hif
      simp; omega
     ·rw [if_neg hji, h3 j hj]; simp [hji]
    ·rw [List.length_erase_of_mem hif, hm]; exact hw'
   ·have hge : k + 1 ≤ i := by
     rcases Nat.lt_or_ge i (k + 1) with h | h
     ·have := (h3 i hi1).2 ⟨h, hif⟩; rw [hi2] at this; cases this
     ·exact h
    have hnil : F' = [] := by
     cases F' with
     | nil => rfl
     | cons f r =>
      have hf := h2 f List.mem_cons_self
      have h6 := prec_closed hcl 9 i f ((hchk i o ho).2 (by omega) f (by omega) (fun h => by omega)) hi3
      exact absurd List.mem_cons_self ((h3 f (by omega)).1 h6).2
    subst hnil
    exact tail (k + 1) (Nat.le_refl _) (fun j hj => by rw [h3 j hj]; simp) hkn h4 i hi
theorem Tr.parS {id k : Nat} {F : List Nat} {ps : List PO} {ok : Oper} (hm : P.follows .mixedOrders = true) (hpw : PW P w0.heap.size ops hs M0 (ops.toList.take k) ps e0) (hk : k ≤ ops.size) (hok : parOkS ops k F = true) (hh : handOk e0 M0 ps = true) (hso : stOk hs ps = true) (hN : ps.all (fun p => !p.ds || decide (p.d < N)) = true)
  (hpu : pureOk ps F = true) (hnd : F.Nodup) (hokk : ops[k]? = some ok)
  (htl : ∀ F', F' ∈ subsets F → ∃ e2, DropRs (F'.map (slotOf ps)) (finE e0 ps) e2 ∧ TrOps P N w0 O0 ops (nrm (wpSet P ops Q (ops.toList.drop (k + 1)) F'.length F')) e2 (finM M0 ps) [ok]) : Tr P N w0 O0 e0 M0 (.region id ops true) Q := by
 intro O H a w hst
 have memD : ∀ h m, look M0 h = some m → MHold O H w0.heap.size w.drew h m := fun h m hm => MHold.mono (w := w) (w' := w.drew) (hb := none) (hh := none) (O := O) (O' := O) (H := H) (H' := H) ⟨fun _ _ => rfl, fun _ _ _ => rfl, fun _ _ => rfl⟩ (hst.mem h m hm) (by simp) (by simp) 0 (fun h he => by cases he) (.inl rfl)
 refine wp_region_any hm (par_set (M1 := M0) hpw hk hok hh hso (fun p hp hps => by have := List.all_eq_true.1 hN p hp; rw [hps] at this; simpa using this) hpu hnd hokk htl ops.size _ a _ (by simp) (fun i hi _ => by omega) (Nat.le_trans (List.length_filter_le _ _) (by simp)) (fun i hi => ?_) (.inl ⟨O, H, ?_, fun i _ => ?_⟩))
 ·simp only [Array.getD_eq_getD_getElem?, Array.getElem?_replicate] at hi
  split at hi <;> simp at hi
 ·refine ⟨hst.df, hst.sz, hst.bl.drew, hst.lab, fun n s hs _ => (let ⟨x, hx, hr⟩ := hst.slots n s hs; ⟨x, hx, RepS.keeps (w := w) (w' := w.drew) (O := O) (fun b _ h => ⟨h, rfl⟩) hr⟩), fun i p _ _ hi => ?_, fun h m hm => memD h m (look_dropM hm).1, fun i p h m _ hi => ?_, fun i p h m m' hp hps => ?_⟩
  ·simp only [Array.getD_eq_getD_getElem?, Array.getElem?_replicate] at hi
   split at hi <;> simp at hi
  ·simp only [Array.getD_eq_getD_getElem?, Array.getElem?_replicate] at hi
   split at hi <;> simp at hi
  ·have hF : (Array.replicate ops.size false).getD i false = false := by
    simp only [Array.getD_eq_getD_getElem?, Array.getElem?_replicate]
    split <;> simp
   rw [if_neg (by rw [hF]; simp)]
   obtain ⟨o, ho⟩ : ∃ o, (ops.toList.take k)[i]? = some o := ⟨(ops.toList.take k)[i]'(by rw [hpw.get.1]; exact (List.getElem?_eq_some_iff.1 hp).1), List.getElem?_eq_getElem _⟩
   have hs1 := hpw.get.2 i o p ho hp
   simp only [PStep, hps] at hs1
   exact memD h m hs1.2.2.2.1
 ·simp only [Array.getD_eq_getD_getElem?, Array.getElem?_replicate]
  split <;> simp
def EachL (R : List Nat → Prop) : List (List Nat) → Prop
 | [] => True
 | i :: r => R i ∧ EachL R r
theorem EachL.get {R : List Nat → Prop} : ∀ {l : List (List Nat)} {i : List Nat}, EachL R l → i ∈ l → R i
 | _ :: _, _, h, hi => by
  rcases List.mem_cons.1 hi with rfl | hi
  ·exact h.1
  ·exact EachL.get h.2 hi
theorem PC.doneS {id : Nat} {ps : List PO} {e : Env} {rest : List Oper} (F : List Nat) {ok : Oper} (ss : List (List Nat)) (hm : P.follows .mixedOrders = true) (hok : parOkS ops ps.length F = true) (hh : handOk e0 M0 ps = true) (hso : stOk hs ps = true) (hN : ps.all (fun p => !p.ds || decide (p.d < N)) = true)
  (hpu : pureOk ps F = true) (hnd : F.Nodup) (hss : subsets F = ss) (hM : finM M0 ps = M0)
  (htl : EachL (fun F' => ∃ D e2, F'.map (slotOf ps) = D ∧ DropRs D e e2 ∧ TrOps P N w0 O0 ops (nrm (wpSet P ops Q rest F'.length F')) e2 M0 [ok]) ss) : PC P N w0 O0 id ops Q hs e0 M0 ps e (ok :: rest) := by
 intro pre hops hpw he
 subst he
 have hlen : pre.length = ps.length := hpw.get.1
 have hk : ps.length ≤ ops.size := by
  have : ops.size = (pre ++ ok :: rest).length := by rw [← hops]; simp
  rw [this, ← hlen]; simp
 have hd : ops.toList.drop (ps.length + 1) = rest := by rw [hops, ← hlen, List.drop_append]; simp
 have hokk : ops[ps.length]? = some ok := by
  rw [← Array.getElem?_toList, hops, ← hlen, List.getElem?_append_right (Nat.le_refl _)]; simp
 refine Tr.parS (k := ps.length) (F := F) (ps := ps) (ok := ok) hm ?_ hk hok hh hso hN hpu hnd hokk fun F' hF' => ?_
 ·rw [hops, ← hlen, List.take_left]; exact hpw
 ·rw [hd, hM]
  rw [hss] at hF'
  obtain ⟨D, e2, rfl, h1, h2⟩ := htl.get hF'
  exact ⟨e2, h1, h2⟩
end
end Go.Eng
end

section
namespace Go.Eng
open Go.RowKit (Below)
section
variable {P : Program} {N : Nat} {w0 : World} {O0 : Nat → Nat} {ops : Array Oper} {Q : Post} {e e' : Env} {M M' : Mem} {n : Nat} {L : List Bool}
theorem St.drewL {O : Nat → Nat} {H : Nat → Value} {a : Act} {w : World} (hst : St N w0 O0 e M O H a w) : St N w0 O0 e M O H a w.drew :=
 ⟨hst.df, hst.sz, hst.bl.drew, hst.lab, fun n s hs => (let ⟨x, hx, hr⟩ := hst.slots n s hs; ⟨x, hx, RepS.mono0 (hb := none) (w := w) (w' := w.drew) (O := O) (O' := O) (H := H) (H' := H) ⟨fun _ _ => rfl, fun _ _ _ => rfl, fun _ _ => rfl⟩ hr⟩),
  fun h m hm => MHold.mono (w := w) (w' := w.drew) (hb := none) (hh := none) (O := O) (O' := O) (H := H) (H' := H) ⟨fun _ _ => rfl, fun _ _ _ => rfl, fun _ _ => rfl⟩ (hst.mem h m hm) (by simp) (by simp) 0 (fun h he => by cases he) (.inl rfl)⟩
def TrL (P : Program) (N : Nat) (w0 : World) (O0 : Nat → Nat) (ops : Array Oper) (Q : Post) (n : Nat) (L : List Bool) (e : Env) (M : Mem) : Prop :=
 ∀ (O : Nat → Nat) (H : Nat → Value) (a : Act) (w : World), St N w0 O0 e M O H a w → wpAny P .any ops Q n L.toArray a w
def TrN (P : Program) (N : Nat) (w0 : World) (O0 : Nat → Nat) (ops : Array Oper) (Q : Post) (n : Nat) (L : List Bool) (e : Env) (M : Mem) (i : Nat) : Prop :=
 ∃ o, ops[i]? = some o ∧ TrOps P N w0 O0 ops (nrm (wpAny P .any ops Q n (L.set i true).toArray)) e M [o]
theorem Tr.lattice {id : Nat} (n : Nat) (L : List Bool) (hm : P.follows .mixedOrders = true) (hn : ops.size = n) (hL : List.replicate n false = L) (h : TrL P N w0 O0 ops Q n L e M) : Tr P N w0 O0 e M (.region id ops true) Q := by
 intro O H a w hst
 refine wp_region_any hm ?_
 have := h O H a _ hst.drewL
 rw [hn]
 rw [← hL] at this
 simpa using this
theorem TrL.step (rs : List Nat) (hr : Region.ready .any ops L.toArray = rs) (h0 : rs.isEmpty = false) (h : EachI (TrN P N w0 O0 ops Q n L e M) rs) : TrL P N w0 O0 ops Q (n + 1) L e M := by
 intro O H a w hst
 refine ⟨fun hn => ?_, fun i hi => ?_⟩
 ·rw [hr] at hn; rw [hn] at h0; cases h0
 ·rw [hr] at hi
  obtain ⟨o, ho, ht⟩ := h.get hi
  have := wp1 (Q := Q) ho (ht O H a w hst)
  simpa using this
theorem TrL.join {i : Nat} {L' : List Bool} (h : TrL P N w0 O0 ops Q n L' e' M') (hL : L.set i true = L') (hs : Sub e M e' M') : TrOps P N w0 O0 ops (nrm (wpAny P .any ops Q n (L.set i true).toArray)) e M [] := fun O H a w hst => by
 subst hL
 exact ⟨rfl, h O H a w (hs.st hst)⟩
theorem TrL.fin (hr : Region.ready .any ops L.toArray = []) (h : At N w0 O0 e M .normal Q) : TrL P N w0 O0 ops Q n L e M := by
 intro O H a w hst
 cases n with
 | zero => exact ⟨hr, h O H a w hst⟩
 | succ n => exact ⟨fun _ => h O H a w hst, fun i hi => by rw [hr] at hi; cases hi⟩
theorem TrL.share (n' : Nat) (L' : List Bool) (e' : Env) (M' : Mem) (h : TrL P N w0 O0 ops Q n' L' e' M') (k : TrL P N w0 O0 ops Q n' L' e' M' → TrL P N w0 O0 ops Q n L e M) : TrL P N w0 O0 ops Q n L e M := k h
end
end Go.Eng
end

section
namespace Go.Eng
section
variable {P : Program} {B : Nat} {o : Oper} {e : Env} {M : Mem} {s : S}
theorem OpSem.f {t k n h m : Nat} {x : Operand} (ht : fof P t k = some n) (ho : o.op = .fieldAddr t x k := by exact rfl) (hx : opS e x = some (.r h m) := by exact rfl) : OpSem P B o e M (.r h (m + n)) none := .fieldr ho hx ht
theorem OpSem.l {t : TypeId} {x : Operand} {h k : Nat} {cs : List S} (ht : vsz P t = some (false, 1)) (ho : o.op = .load t x := by exact rfl) (hx : opS e x = some (.r h k) := by exact rfl) (hM : look M h = some (.box cs) := by exact rfl)
  (hd : cs[k]? = some s := by exact rfl) : OpSem P B o e M s none := .loadb1 ho hx hM ht hd
theorem OpSem.b {op : BinOp} {t u : TypeId} {x y : Operand} {k : IntKind} {m n : Int} {z : Value} (hz : binOp op t (.int k m) (.int k n) = pure z) (ho : o.op = .binOp op t x y u := by exact rfl) (hx : opS e x = some (.d (.v (.int k m))) := by exact rfl) (hy : opS e y = some (.d (.v (.int k n))) := by exact rfl) :
  OpSem P B o e M (.d (.v z)) none := .bin ho hx hy hz
theorem OpSem.ad {t u : TypeId} {x y : Operand} {m n : Int} (ho : o.op = .binOp .add t x y u := by exact rfl) (hx : opS e x = some (.d (.v (.int .i64 m))) := by exact rfl) (hy : opS e y = some (.d (.v (.int .i64 n))) := by exact rfl) (h0 : -9223372036854775808 ≤ m + n := by omega) (h1 : m + n ≤ 9223372036854775807 := by omega) :
  OpSem P B o e M (.d (.v (.int .i64 (m + n)))) none := .bin ho hx hy (badd h0 h1)
theorem OpSem.su {t u : TypeId} {x y : Operand} {m n : Int} (ho : o.op = .binOp .sub t x y u := by exact rfl) (hx : opS e x = some (.d (.v (.int .i64 m))) := by exact rfl) (hy : opS e y = some (.d (.v (.int .i64 n))) := by exact rfl) (h0 : -9223372036854775808 ≤ m - n := by omega) (h1 : m - n ≤ 9223372036854775807 := by omega) :
  OpSem P B o e M (.d (.v (.int .i64 (m - n)))) none := .bin ho hx hy (bsub h0 h1)
theorem OpSem.bs {t k len : Nat} {ps : Array (Nat × Operand)} {l : List (Nat × S)} {zs : List Value} {ss : List S} {rows : List (List D)} (hk : esz P t = some k) (hz : zcells P (P.elem t) = some zs) (ho : o.op = .buildSlice t len ps := by exact rfl) (hp : partsS e ps.toList = some l := by exact rfl)
  (h1 : zs.all Value.oneCell' = true := by exact rfl) (hzk : zs.length = k := by exact rfl) (hk0 : 0 < k := by decide) (hlen : len * k ≤ 2 ^ 24 := by decide)
  (hf : fillS (fun i => some (i * k, k)) ((List.replicate len zs).flatten.map fun z => .d (.v z)) l = some ss := by exact rfl) (hr : rowsOf k len ss = some rows := by exact rfl) : OpSem P B o e M (.d (.s k rows)) none := .buildSlice ho hp hk hz h1 hzk hk0 hlen hf hr
end
section
variable {P : Program} {N : Nat} {w0 : World} {O0 : Nat → Nat} {ops : Array Oper} {Q : Post} {e : Env} {M : Mem} {rest : List Oper} {o : Oper} {s : S}
theorem TrOps.x (hsem : OpSem P w0.heap.size o e M s none) {d : Nat} (h : TrOps P N w0 O0 ops Q ((d, s) :: e) M rest) (hg : o.guard = none := by exact rfl) (hd : o.dst = some d := by exact rfl) (hdN : d < N := by decide) : TrOps P N w0 O0 ops Q e M (o :: rest) := TrOps.sem hsem hg hd hdN h
theorem TrOps.m {x : Operand} {d : Nat} (h : TrOps P N w0 O0 ops Q ((d, s) :: e) M rest) (ho : o.op = .move x := by exact rfl) (hx : opS e x = some s := by exact rfl) (hg : o.guard = none := by exact rfl) (hd : o.dst = some d := by exact rfl) (hdN : d < N := by decide) : TrOps P N w0 O0 ops Q e M (o :: rest) := TrOps.sem (.move (.inl ho) hx) hg hd hdN h
theorem TrOps.a {x : Operand} {d : Nat} (h : TrOps P N w0 O0 ops Q ((d, s) :: e) M rest) (ho : o.op = .assign x := by exact rfl) (hx : opS e x = some s := by exact rfl) (hg : o.guard = none := by exact rfl) (hd : o.dst = some d := by exact rfl) (hdN : d < N := by decide) : TrOps P N w0 O0 ops Q e M (o :: rest) := TrOps.sem (.move (.inr ho) hx) hg hd hdN h
theorem TrOps.gf {j d d' : Nat} {c : Bool} {oj : Oper} (hc : c = false) (h : TrOps P N w0 O0 ops Q ((d, .d (.v undef)) :: e) M rest) (hg : o.guard = some (j, true) := by exact rfl) (hj : ops[j]? = some oj := by exact rfl) (hdj : oj.dst = some d' := by exact rfl)
  (hb : look e d' = some (.d (.v (.bool c))) := by exact rfl) (hd : o.dst = some d := by exact rfl) (hdN : d < N := by decide) : TrOps P N w0 O0 ops Q e M (o :: rest) := TrOps.gF hg hj hdj hb hc hd hdN h
theorem TrOps.hf {j d d' : Nat} {c : Bool} {oj : Oper} (hc : c = true) (h : TrOps P N w0 O0 ops Q ((d, .d (.v undef)) :: e) M rest) (hg : o.guard = some (j, false) := by exact rfl) (hj : ops[j]? = some oj := by exact rfl) (hdj : oj.dst = some d' := by exact rfl)
  (hb : look e d' = some (.d (.v (.bool c))) := by exact rfl) (hd : o.dst = some d := by exact rfl) (hdN : d < N := by decide) : TrOps P N w0 O0 ops Q e M (o :: rest) := TrOps.gF hg hj hdj hb hc hd hdN h
theorem TrOps.gt {j d' : Nat} {c : Bool} {oj : Oper} (hc : c = true) (h : TrOps P N w0 O0 ops Q e M ({ o with guard := none } :: rest)) (hg : o.guard = some (j, true) := by exact rfl) (hj : ops[j]? = some oj := by exact rfl) (hdj : oj.dst = some d' := by exact rfl)
  (hb : look e d' = some (.d (.v (.bool c))) := by exact rfl) : TrOps P N w0 O0 ops Q e M (o :: rest) := TrOps.gT hg hj hdj hb hc h
theorem TrOps.ht {j d' : Nat} {c : Bool} {oj : Oper} (hc : c = false) (h : TrOps P N w0 O0 ops Q e M ({ o with guard := none } :: rest)) (hg : o.guard = some (j, false) := by exact rfl) (hj : ops[j]? = some oj := by exact rfl) (hdj : oj.dst = some d' := by exact rfl)
  (hb : look e d' = some (.d (.v (.bool c))) := by exact rfl) : TrOps P N w0 O0 ops Q e M (o :: rest) := TrOps.gT hg hj hdj hb hc h
theorem TrOps.gu {j d d' : Nat} {b : Bool} {oj : Oper} (h : TrOps P N w0 O0 ops Q ((d, .d (.v undef)) :: e) M rest) (hg : o.guard = some (j, b) := by exact rfl) (hj : ops[j]? = some oj := by exact rfl) (hdj : oj.dst = some d' := by exact rfl)
  (hb : look e d' = some (.d (.v undef)) := by exact rfl) (hd : o.dst = some d := by exact rfl) (hdN : d < N := by decide) : TrOps P N w0 O0 ops Q e M (o :: rest) := TrOps.gU hg hj hdj hb hd hdN h
theorem TrOps.sb {t : TypeId} {x y : Operand} {h k : Nat} {cs ss : List S} {g : Bool} (ht : vsz P t = some (g, ss.length)) (hn : TrOps P N w0 O0 ops Q e ((h, .box (cs.take k ++ ss ++ cs.drop (k + ss.length))) :: M) rest) (ho : o.op = .store t x y := by exact rfl) (hg : o.guard = none := by exact rfl) (hd : o.dst = none := by exact rfl)
  (hx : opS e x = some (.r h k) := by exact rfl) (hM : look M h = some (.box cs) := by exact rfl) (hy : opS e y = some s := by exact rfl) (hs : s.cells = some ss := by exact rfl) (hk : k + ss.length ≤ cs.length := by first | decide | simp) : TrOps P N w0 O0 ops Q e M (o :: rest) := TrOps.storeb ho hg hd hx hM hy hs ht hk hn
theorem TrOps.ap {x y : Operand} {t k h T d by_ : Nat} {rows rows2 : List (List D)} {zs : List Value} (hk : esz P t = some k) (hT : P.elem t = T) (hz : zcells P T = some zs) (hby : P.bytesOf T = by_) (hn : TrOps P N w0 O0 ops Q ((d, .o h) :: kill h e) ((h, .own k T (rows ++ rows2)) :: killM h M) rest)
  (ho : o.op = .call { callee := .builtin .append, args := #[x, y], argTypes := #[t, t] } := by exact rfl) (hg : o.guard = none := by exact rfl) (hd : o.dst = some d := by exact rfl) (hdN : d < N := by decide) (hx : opS e x = some (.o h) := by exact rfl) (hM : look M h = some (.own k T rows) := by exact rfl) (hy : opS e y = some (.d (.s k rows2)) := by exact rfl) (hzk : zs.length = k := by exact rfl)
  (hone : ∀ r, r ∈ rows2 → r.all D.one = true := by simp [D.one, Value.oneCell']) (hlen : (rows.length + rows2.length) ≤ maxLen := by simp [maxLen]; omega) (hroom : (rows.length + rows2.length) * by_ ≤ 140737488355328 := by simp; omega) : TrOps P N w0 O0 ops Q e M (o :: rest) := TrOps.append ho hg hd hdN hx hM hy hk hT hz hzk hby hone hlen hroom hn
theorem TrOps.z {id : Nat} {l : List Oper} {c : Code} (h : TrOps P N w0 O0 l.toArray (Exit.then (c.wp P Q) Q) e M l) : TrOps P N w0 O0 ops (Exit.then ((Code.seq (.region id l.toArray false) c).wp P Q) Q) e M [] := TrOps.nil (At.seq (Tr.seq (Tr.region h)))
theorem TrOps.y {id : Nat} {l : List Oper} (h : TrOps P N w0 O0 l.toArray Q e M l) : TrOps P N w0 O0 ops (Exit.then ((Code.region id l.toArray false).wp P Q) Q) e M [] := TrOps.nil (At.seq (Tr.region h))
theorem At.z {id : Nat} {l : List Oper} {c : Code} (h : TrOps P N w0 O0 l.toArray (Exit.then (c.wp P Q) Q) e M l) : At N w0 O0 e M .normal (Exit.then ((Code.seq (.region id l.toArray false) c).wp P Q) Q) := At.seq (Tr.seq (Tr.region h))
theorem At.y {id : Nat} {l : List Oper} (h : TrOps P N w0 O0 l.toArray Q e M l) : At N w0 O0 e M .normal (Exit.then ((Code.region id l.toArray false).wp P Q) Q) := At.seq (Tr.region h)
theorem TrOps.sq {c : Code} (h : Tr P N w0 O0 e M c Q) : TrOps P N w0 O0 ops (Exit.then (c.wp P Q) Q) e M [] := TrOps.nil (At.seq h)
variable {id : Nat} {hs : List Nat} {e0 : Env} {M0 : Mem} {ps : List PO}
theorem PC.x (hsem : OpSem P w0.heap.size o e (dropM hs M0) s none) {d : Nat} (h : PC P N w0 O0 id ops Q hs e0 M0 (ps ++ [⟨d, s, none, none, true⟩]) ((d, s) :: e) rest) (hg : o.guard = none := by exact rfl) (hd : o.dst = some d := by exact rfl) : PC P N w0 O0 id ops Q hs e0 M0 ps e (o :: rest) := PC.sem hsem hg hd h
theorem PC.m {x : Operand} {d : Nat} (h : PC P N w0 O0 id ops Q hs e0 M0 (ps ++ [⟨d, s, none, none, true⟩]) ((d, s) :: e) rest) (ho : o.op = .move x := by exact rfl) (hx : opS e x = some s := by exact rfl) (hg : o.guard = none := by exact rfl) (hd : o.dst = some d := by exact rfl) : PC P N w0 O0 id ops Q hs e0 M0 ps e (o :: rest) := PC.sem (.move (.inl ho) hx) hg hd h
theorem PC.gf {j d d' : Nat} {c : Bool} {oj : Oper} (hc : c = false) (h : PC P N w0 O0 id ops Q hs e0 M0 (ps ++ [⟨d, .d (.v undef), none, none, true⟩]) ((d, .d (.v undef)) :: e) rest) (hg : o.guard = some (j, true) := by exact rfl) (hj : ops[j]? = some oj := by exact rfl) (hdj : oj.dst = some d' := by exact rfl)
  (hb : look e d' = some (.d (.v (.bool c))) := by exact rfl) (hd : o.dst = some d := by exact rfl) : PC P N w0 O0 id ops Q hs e0 M0 ps e (o :: rest) := PC.gF hg hj hdj hb hc hd h
theorem PC.hf {j d d' : Nat} {c : Bool} {oj : Oper} (hc : c = true) (h : PC P N w0 O0 id ops Q hs e0 M0 (ps ++ [⟨d, .d (.v undef), none, none, true⟩]) ((d, .d (.v undef)) :: e) rest) (hg : o.guard = some (j, false) := by exact rfl) (hj : ops[j]? = some oj := by exact rfl) (hdj : oj.dst = some d' := by exact rfl)
  (hb : look e d' = some (.d (.v (.bool c))) := by exact rfl) (hd : o.dst = some d := by exact rfl) : PC P N w0 O0 id ops Q hs e0 M0 ps e (o :: rest) := PC.gF hg hj hdj hb hc hd h
theorem PC.gt {j d d' : Nat} {c : Bool} {oj : Oper} (hsem : OpSem P w0.heap.size o e (dropM hs M0) s none) (hc : c = true) (h : PC P N w0 O0 id ops Q hs e0 M0 (ps ++ [⟨d, s, none, none, true⟩]) ((d, s) :: e) rest) (hg : o.guard = some (j, true) := by exact rfl) (hj : ops[j]? = some oj := by exact rfl) (hdj : oj.dst = some d' := by exact rfl)
  (hb : look e d' = some (.d (.v (.bool c))) := by exact rfl) (hd : o.dst = some d := by exact rfl) : PC P N w0 O0 id ops Q hs e0 M0 ps e (o :: rest) := PC.gT hsem hg hj hdj hb hc hd h
theorem PC.ht {j d d' : Nat} {c : Bool} {oj : Oper} (hsem : OpSem P w0.heap.size o e (dropM hs M0) s none) (hc : c = false) (h : PC P N w0 O0 id ops Q hs e0 M0 (ps ++ [⟨d, s, none, none, true⟩]) ((d, s) :: e) rest) (hg : o.guard = some (j, false) := by exact rfl) (hj : ops[j]? = some oj := by exact rfl) (hdj : oj.dst = some d' := by exact rfl)
  (hb : look e d' = some (.d (.v (.bool c))) := by exact rfl) (hd : o.dst = some d := by exact rfl) : PC P N w0 O0 id ops Q hs e0 M0 ps e (o :: rest) := PC.gT hsem hg hj hdj hb hc hd h
theorem PC.d0 (hm : P.follows .mixedOrders = true) (ht : TrOps P N w0 O0 ops Q e M0 rest) (hok : parOk ops ps.length = true := by kernel_rfl) (hh : handOk e0 M0 ps = true := by kernel_rfl) (hso : stOk hs ps = true := by kernel_rfl) (hN : ps.all (fun p => !p.ds || decide (p.d < N)) = true := by kernel_rfl) (hM : finM M0 ps = M0 := by kernel_rfl) :
  PC P N w0 O0 id ops Q hs e0 M0 ps e rest := PC.done0 hm hok hh hso hN hM ht
theorem PC.d1 (h : Nat) (m : Mo) (hm : P.follows .mixedOrders = true) (ht : TrOps P N w0 O0 ops Q e ((h, m) :: M0) rest) (hok : parOk ops ps.length = true := by kernel_rfl) (hh : handOk e0 M0 ps = true := by kernel_rfl) (hso : stOk hs ps = true := by kernel_rfl) (hN : ps.all (fun p => !p.ds || decide (p.d < N)) = true := by kernel_rfl) (hM : finM M0 ps = (h, m) :: M0 := by kernel_rfl) :
  PC P N w0 O0 id ops Q hs e0 M0 ps e rest := PC.done1 h m hm hok hh hso hN hM ht
theorem PC.dn (hm : P.follows .mixedOrders = true) (ht : TrOps P N w0 O0 ops Q e (finM M0 ps) rest) (hok : parOk ops ps.length = true := by kernel_rfl) (hh : handOk e0 M0 ps = true := by kernel_rfl) (hso : stOk hs ps = true := by kernel_rfl) (hN : ps.all (fun p => !p.ds || decide (p.d < N)) = true := by kernel_rfl) :
  PC P N w0 O0 id ops Q hs e0 M0 ps e rest := PC.done hm hok hh hso hN ht
variable {e' : Env} {M' : Mem} {n : Nat} {L : List Bool}
theorem TrOps.j {i : Nat} {L' : List Bool} (h : TrL P N w0 O0 ops Q n L' e' M') (hL : L.set i true = L' := by exact rfl) (hs : Sub e M e' M' := by repeat' first | exact .nil | refine .slot rfl (.refl _) ?_ | refine .mem rfl ?_) : TrOps P N w0 O0 ops (nrm (wpAny P .any ops Q n (L.set i true).toArray)) e M [] := TrL.join h hL hs
theorem Sub.all (h : Sub e M e' M' := by repeat' first | exact .nil | refine .slot rfl (.refl _) ?_ | refine .mem rfl ?_) : Sub e M e' M' := h
theorem TrL.st (rs : List Nat) (h : EachI (TrN P N w0 O0 ops Q n L e M) rs) (hr : Region.ready .any ops L.toArray = rs := by kernel_rfl) (h0 : rs.isEmpty = false := by exact rfl) : TrL P N w0 O0 ops Q (n + 1) L e M := .step rs hr h0 h
end
theorem Sub.sl {e e' : Env} {M M' : Mem} {n : Nat} {s s' : S} (t : Sub e M e' M') (h : look e n = some s := by exact rfl) (hl : Le s s' := by exact .refl _) : Sub e M ((n, s') :: e') M' := .slot h hl t
abbrev Tt : Bool := true
abbrev Ff : Bool := false
end Go.Eng
end

section
namespace Go.Eng
open Go.RowKit (Below)
abbrev ptr (b off : Nat) : Value := .pointer (some ⟨b, off, none⟩)
abbrev slc (b len cap : Nat) : Value := .slice (some ⟨b, 0, none⟩) len cap
abbrev PF := Nat → Option (Nat × List Value)
def pinK (F : PF) : Km := {
 q O _ B w h := ∀ b T l, F b = some (T, l) → B ≤ b ∧ O b = h + 1 ∧ w.heap[b]? = some (.cells l.toArray T (0, 0))
 mono := by
  intro O O' v B w w' h hk hq b T l hF
  obtain ⟨h1, h2, h3⟩ := hq b T l hF
  obtain ⟨k1, k2⟩ := hk b (Array.getElem?_eq_some_iff.1 h3).1 (.inr h2)
  exact ⟨h1, k1.trans h2, k2.trans h3⟩ }
def updF (F : PF) (b T : Nat) (l : List Value) : PF := fun c => if c = b then some (T, l) else F c
abbrev noF : PF := fun _ => none
section
variable {P : Program} {B : Nat} {o : Oper} {e : Env} {M : Mem} {s : S}
theorem rep_v {O : Nat → Nat} {H : Nat → Value} {w : World} {x v : Value} (h : RepS O H w x (.d (.v v))) : x = v := by
 cases h with
 | d _ _ q => cases q with
  | v _ => rfl
theorem OpSem.nilv {x : Operand} {b off : Nat} (ho : o.op = .nilCheck x) (hx : opS e x = some (.d (.v (ptr b off)))) : OpSem P B o e M (.d (.v (ptr b off))) none :=
 .value fun O H a w hs _ => by
  have hr := rep_v (hs x (by simp [ho, Op.operands]) _ hx)
  exact ⟨ptr b off, by simp [execOp, ho, hr], .d _ _ (.v _)⟩
theorem OpSem.nilr {x : Operand} {h k : Nat} (ho : o.op = .nilCheck x) (hx : opS e x = some (.r h k)) : OpSem P B o e M (.r h k) none :=
 .value fun O H a w hs _ => by
  have hr := hs x (by simp [ho, Op.operands]) _ hx
  generalize hv : a.eval x = v at hr
  cases hr with
  | r h b k hH => exact ⟨ptr b k, by simp [execOp, ho, hv], .r h b k hH⟩
theorem OpSem.nilp {x : Operand} {cs : List D} (ho : o.op = .nilCheck x) (hx : opS e x = some (.p cs)) : OpSem P B o e M (.p cs) none :=
 .value fun O H a w hs _ => by
  have hr := hs x (by simp [ho, Op.operands]) _ hx
  generalize hv : a.eval x = v at hr
  cases hr with
  | p b off cs y hO hy hr => exact ⟨ptr b off, by simp [execOp, ho, hv], .p b off cs y hO hy hr⟩
theorem OpSem.fieldv {t k n b off : Nat} {x : Operand} (ho : o.op = .fieldAddr t x k) (hx : opS e x = some (.d (.v (ptr b off)))) (ht : fof P t k = some n) : OpSem P B o e M (.d (.v (ptr b (off + n)))) none :=
 .value fun O H a w hs _ => by
  have hr := rep_v (hs x (by simp [ho, Op.operands]) _ hx)
  exact ⟨ptr b (off + n), by simp [execOp, ho, hr, run_fieldAt ht], .d _ _ (.v _)⟩
theorem OpSem.lenv {x : Operand} {t k len cap : Nat} {a0 : Option Addr} (ho : o.op = .call { callee := .builtin .len, args := #[x], argTypes := #[t] }) (hx : opS e x = some (.d (.v (.slice a0 len cap)))) (ht : esz P t = some k) : OpSem P B o e M (.d (.v (.int .i64 len))) none :=
 .value fun O H a w hs _ => by
  have hr := rep_v (hs x (by simp [ho, Op.operands, Call.operands]) _ hx)
  exact ⟨_, by simp [execOp, ho, resolve, invoke, builtin, hr, run_len_slice w t _ _ _ _ (esz_spec ht).1, goInt], .d _ _ (.v _)⟩
theorem OpSem.idxv {t b len cap off : Nat} {x i : Operand} {kk : IntKind} {n : Int} {a0 : Option Addr} (ho : o.op = .indexAddr t x i) (hx : opS e x = some (.d (.v (.slice a0 len cap)))) (hi : opS e i = some (.d (.v (.int kk n))))
  (ht : esz P t = some 1) (ha : a0 = some ⟨b, off, none⟩) (h0 : 0 ≤ n) (h1 : n < len) : OpSem P B o e M (.d (.v (ptr b (off + n.toNat)))) none :=
 .value fun O H a w hs _ => by
  subst ha
  have hr := rep_v (hs x (by simp [ho, Op.operands]) _ hx)
  have hu := rep_v (hs i (by simp [ho, Op.operands]) _ hi)
  exact ⟨ptr b (off + n.toNat), by simp [execOp, ho, hr, hu, run_idx ht h0 h1], .d _ _ (.v _)⟩
theorem OpSem.loadv {t : TypeId} {x : Operand} {b off T h : Nat} {F : PF} {l : List Value} {v : Value} (ho : o.op = .load t x) (hx : opS e x = some (.d (.v (ptr b off)))) (hM : look M h = some (.any (pinK F))) (ht : vsz P t = some (false, 1))
  (hF : F b = some (T, l)) (hv : l[off]? = some v) : OpSem P B o e M (.d (.v v)) none :=
 .value fun O H a w hs hm => by
  have hr := rep_v (hs x (by simp [ho, Op.operands]) _ hx)
  obtain ⟨_, _, hb⟩ := hm h _ hM b T l hF
  exact ⟨v, by simp [execOp, ho, Instr.loadAt, Instr.sureAddr, hr, run_loadVar1 ht (cellOf hb (by simpa using hv))], .d _ _ (.v _)⟩
theorem OpSt.storev {t : TypeId} {x y : Operand} {b off T h : Nat} {F F' : PF} {l : List Value} {v : Value} (ho : o.op = .store t x y) (hx : opS e x = some (.d (.v (ptr b off)))) (hy : opS e y = some (.d (.v v))) (ht : vsz P t = some (false, 1))
  (hF : F b = some (T, l)) (hl : off < l.length) (h1 : v.oneCell' = true) (hF' : updF F b T (l.set off v) = F') : OpSt P B o e h (.any (pinK F)) (.any (pinK F')) .u := by
 intro O H a w hBw hsl hm K hK
 subst hF'
 have hr := rep_v (hsl x (by simp [ho, Op.operands]) _ hx)
 have hv := rep_v (hsl y (by simp [ho, Op.operands]) _ hy)
 obtain ⟨hB, hO, hb⟩ := hm b T l hF
 have hcells : v.cells = #[v] := by cases v <;> simp_all [Value.cells, Value.oneCell']
 have hrun := run_storeVar (P := P) (v := v) ht (off := off) hb (by rw [hcells]; rfl) (by simp; omega) (by rw [hcells]; intro z hz; simp at hz; rw [hz]; exact h1)
 have hset : (l.toArray.toList.take off ++ v.cells.toList ++ l.toArray.toList.drop (off + 1)).toArray = (l.set off v).toArray := by
  apply Array.ext'
  simp only [hcells, List.toList_toArray]
  rw [List.set_eq_take_append_cons_drop, if_pos hl]
  simp
 rw [hset] at hrun
 unfold Oper.wp
 simp only [execOp, ho, hr, hv, Instr.storeAt, Instr.sureAddr, Sem.run_bind, Sem.run_pure, Result.andThen_ok, hrun, Oper.upon_skip]
 refine hK _ _ (Keep.setRow hO) ((Below.setRow hB).mono (Nat.le_refl _)) (fun c T' l' hc => ?_) (.u _)
 unfold updF at hc
 by_cases hcb : c = b
 ·subst hcb
  rw [if_pos rfl] at hc
  cases hc
  exact ⟨hB, hO, setRow_heap w c l.toArray _ T _ hb⟩
 ·rw [if_neg hcb] at hc
  obtain ⟨g1, g2, g3⟩ := hm c T' l' hc
  refine ⟨g1, g2, ?_⟩
  rw [← g3]
  exact setRow_other w b c _ hcb
end
def Pins (F : PF) (w : World) : Prop := ∀ b T l, F b = some (T, l) → w.heap[b]? = some (.cells l.toArray T (0, 0))
structure TouchP (F : PF) (w w' : World) : Prop where
 os : w'.os = w.os
 tape : w'.tape = w.tape
 output : w'.output = w.output
 size : w.heap.size ≤ w'.heap.size
 same : ∀ b, b < w.heap.size → F b = none → w'.heap[b]? = w.heap[b]?
structure DoesP (P : Program) (f : Nat) (args : List Value) (res : Value) (F F' : PF) : Prop where
 can : ∀ xs w, (callFunc f xs).run P w = .ok (.enter f xs) w
 dom : ∀ b, F b = none ↔ F' b = none
 run : ∀ (w : World), Pins F w → Calls P f args.toArray w fun en w' => en = .returned res ∧ TouchP F w w' ∧ Pins F' w'
section
variable {P : Program} {N : Nat} {w0 : World} {O0 : Nat → Nat} {ops : Array Oper} {Q : Post} {e : Env} {M : Mem} {rest : List Oper} {o : Oper} {s : S} {B : Nat}
theorem OpSt.callP {h fn : Nat} {g : Operand} {as_ : Array Operand} {ts : Array TypeId} {args : List Value} {res : Value} {F F' : PF} {l : List S} (hspec : DoesP P fn args res F F')
  (ho : o.op = .call { callee := .value g, args := as_, argTypes := ts }) (hg : opS e g = some (.f fn [] [])) (ha : opsS e as_.toList = some l) (hv : ∀ H, l.mapM (valS H 9) = some args) :
  OpSt P B o e h (.any (pinK F)) (.any (pinK F')) (.d (.v res)) := by
 intro O H a w hB hs hm K hK
 have hg' : a.eval g = .func (.func fn) #[] #[] := valS_rep 9 (hs g (by simp [ho, Op.operands, Call.operands]) _ hg) rfl
 have hargs := argsEq (a := a) (O := O) (H := H) (w := w) (as_ := as_) (fun x hx s hs' => hs x (by simp only [ho, Op.operands, Call.operands]; simpa using .inr hx) s hs') ha (hv H)
 unfold Oper.wp
 rw [run_callW hspec.can ho hg' hargs]
 refine (hspec.run w (fun b T l hF => (hm b T l hF).2.2)).mono ?_
 rintro en w' ⟨rfl, ht, hv'⟩
 have hdom : ∀ b, (F b = none → False) → B ≤ b ∧ O b = h + 1 := fun b hb => by
  cases hF : F b with
  | none => exact (hb hF).elim
  | some p => obtain ⟨h1, h2, _⟩ := hm b p.1 p.2 hF; exact ⟨h1, h2⟩
 refine hK w' _ ⟨fun _ _ => rfl, fun b hb hne => ht.same b hb (Classical.byContradiction fun hn => hne h rfl (hdom b hn).2), fun _ _ => rfl⟩ ⟨ht.os, ht.tape, ht.output, ht.size, fun b hb => ht.same b (by omega) (Classical.byContradiction fun hn => by have := (hdom b hn).1; omega)⟩ (fun b T l hF => ?_) (.d _ _ (.v _))
 obtain ⟨h1, h2⟩ := hdom b (fun hn => by rw [(hspec.dom b).1 hn] at hF; cases hF)
 exact ⟨h1, h2, hv' b T l hF⟩
theorem TrOps.ofSt0' {h : Nat} {m m' : Mo} (hst : OpSt P w0.heap.size o e h m m' s) (hM : look M h = some m) (hg : o.guard = none) (hd : o.dst = none)
  (hn : TrOps P N w0 O0 ops Q e ((h, m') :: M) rest) : TrOps P N w0 O0 ops Q e M (o :: rest) := by
 intro O H a w h0
 refine wpList_plain hg fun K hK => Oper.wp_false (hst O H a w h0.bl.size (h0.slotsAt _) (h0.mem h m hM) _ fun w' x h1 h2 h3 h4 => hK _ _ (hn O H _ _ ⟨?_, ?_, h0.bl.trans (h2.mono (Nat.le_refl _)), h0.lab, ?_, fun h' mm hm => ?_⟩)) _
 ·rw [hd]; exact h0.df
 ·rw [hd]; exact h0.sz
 ·rw [hd]
  intro n s' hs'
  obtain ⟨z, hz, hr⟩ := h0.slots n s' hs'
  exact ⟨z, hz, hr.mono0 h1⟩
 ·rcases look_cons hm with ⟨rfl, rfl⟩ | ⟨hne, hm⟩
  ·exact h3
  ·exact (h0.mem h' mm hm).mono h1 (by intro e; cases e; exact hne rfl) (by simp) 0 (fun h he => by cases he) (.inl rfl)
def RetP (Oc : Nat → Nat) (W : World) (res : Value) (F : PF) : Ending → World → Prop :=
 fun en w' => en = .returned res ∧ w'.os = W.os ∧ w'.tape = W.tape ∧ w'.output = W.output ∧ Pins F w' ∧ ∃ O', Keeps Oc W O' w'
theorem DoesP.of_body {f : Nat} {args : List Value} {res : Value} {F F' : PF} {fn : Func} {c : Code} (hf : P.funcs[f]? = some fn) (hb : fn.body = some c) (hN : fn.ntmps = N) (hlen : args.length ≤ N)
  (can : ∀ xs w, (callFunc f xs).run P w = .ok (.enter f xs) w) (dom : ∀ b, F b = none ↔ F' b = none)
  (h : ∀ (O0 : Nat → Nat) (Oc : Nat → Nat) (W : World), Tr P N { W with heap := #[] } O0 (entry 0 (args.map fun v => S.d (.v v))) [(0, .any (pinK F)), (1000, .fr (frK Oc W))] c (bodyPost P fn (RetP Oc W res F'))) : DoesP P f args res F F' := by
 refine ⟨can, dom, fun w hv => ?_⟩
 obtain ⟨Oc, hOc⟩ : ∃ Oc : Nat → Nat, Oc = fun b => if (F b).isSome then 1 else 0 := ⟨_, rfl⟩
 refine (calls_of_wp hf hb (h Oc Oc w Oc (fun _ => undef) _ w ⟨rfl, ?_, ⟨rfl, rfl, rfl, Nat.zero_le _, fun k hk => absurd hk (Nat.not_lt_zero k)⟩, fun b hb => absurd hb (Nat.not_lt_zero b), fun n s hs => ?_, fun n m hm => ?_⟩)).mono ?_
 ·simp; omega
 ·obtain ⟨_, hn⟩ := look_entry _ 0 n s hs
  simp only [Nat.sub_zero, List.getElem?_map, Option.map_eq_some_iff] at hn
  obtain ⟨v, hn, rfl⟩ := hn
  refine ⟨v, ?_, .d _ _ (.v _)⟩
  have hlt := (List.getElem?_eq_some_iff.1 hn).1
  rw [Array.getElem?_append_left (by simpa using hlt)]
  simpa using hn
 ·rcases look_cons hm with ⟨rfl, rfl⟩ | ⟨_, hm⟩
  ·intro b T l hF
   exact ⟨Nat.zero_le _, by rw [hOc]; simp [hF], hv b T l hF⟩
  ·rcases look_cons hm with ⟨rfl, rfl⟩ | ⟨_, hm⟩
   ·exact fun b _ h => ⟨h, rfl⟩
   ·cases hm
 ·rintro en w' ⟨rfl, hos, htp, hout, hp, O', hk⟩
  have hex : ∀ b, b < w.heap.size → b < w'.heap.size := fun b hb => by
   cases hF : F b with
   | none =>
    have := (hk b hb (by rw [hOc]; simp [hF])).2
    rw [Array.getElem?_eq_getElem hb] at this
    exact (Array.getElem?_eq_some_iff.1 this).1
   | some p =>
    cases hF' : F' b with
    | none => rw [(dom b).2 hF'] at hF; cases hF
    | some q => exact (Array.getElem?_eq_some_iff.1 (hp b q.1 q.2 hF')).1
  refine ⟨rfl, ⟨hos, htp, hout, ?_, fun b hb hn => (hk b hb (by rw [hOc]; simp [hn])).2⟩, hp⟩
  rcases Nat.eq_zero_or_pos w.heap.size with h0 | h0
  ·omega
  ·have := hex (w.heap.size - 1) (by omega); omega
theorem At.retP {Oc : Nat → Nat} {W : World} {res : Value} {F F' : PF} {fn : Func} {rs : List ResultVar} {l : List S} {x : Exit} (hx : x = .ret ∨ x = .normal) (hres : fn.results.toList = rs) (hl : RetL P e M rs l) (hM : look M 0 = some (.any (pinK F))) (hK : look M 1000 = some (.fr (frK Oc W))) (hr : F = F')
  (hv : ∀ H, valS H 9 (one l) = some res) : At N { W with heap := #[] } O0 e M x (bodyPost P fn (RetP Oc W res F')) := by
 subst hr
 intro O H a w hst
 obtain ⟨vs, h1, h2, h3⟩ := hl.run hst
 have hrun : (results fn a.tmps).run P w = .ok (if h : vs.toArray.size = 1 then vs.toArray[0] else .tuple vs.toArray) w := by
  rw [results_rv, Array.mapM_eq_mapM_toList, hres]
  simp only [Sem.run_bind, Sem.run_map, h1, Result.andThen_ok, Sem.run_pure]
 have hrep : RepS O H w (if h : vs.toArray.size = 1 then vs.toArray[0] else .tuple vs.toArray) (one l) := by
  clear hrun hv hl h1
  cases l with
  | nil =>
   cases vs with
   | nil => simpa [one] using RepS.t (O := O) (H := H) (w := w) [] [] rfl h3
   | cons v vs => simp at h2
  | cons s l =>
   cases vs with
   | nil => simp at h2
   | cons v vs =>
    cases l with
    | nil =>
     cases vs with
     | nil => simpa [one] using h3 0 v s rfl rfl
     | cons v2 vs => simp at h2
    | cons s2 l =>
     cases vs with
     | nil => simp at h2
     | cons v2 vs => simpa [one] using RepS.t (O := O) (H := H) (w := w) (v :: v2 :: vs) (s :: s2 :: l) h2 h3
 have hx' := valS_rep 9 hrep (hv H)
 have hm := hst.mem 0 _ hM
 have key : a.defers = [] ∧ ∃ v, (results fn a.tmps).run P w = .ok v w ∧ RetP Oc W res F (.returned v) w :=
  ⟨hst.df, _, hrun, by rw [hx'], hst.bl.os, hst.bl.tape, hst.bl.output, fun b T l hF => (hm b T l hF).2.2, O, hst.mem 1000 _ hK⟩
 rcases hx with rfl | rfl <;> exact key
end
end Go.Eng
end

section
namespace Go.Eng
section
variable {P : Program} {B : Nat} {o : Oper} {e : Env} {M : Mem} {s : S}
theorem OpSem.i {t k : Nat} {x i : Operand} {kk : IntKind} {n : Int} {α : Type} [Inhabited α] {l : List α} {f : α → List D} (ht : esz P t = some k) (ho : o.op = .indexAddr t x i := by exact rfl) (hx : opS e x = some (.d (.s k (l.map f))) := by exact rfl) (hi : opS e i = some (.d (.v (.int kk n))) := by exact rfl)
  (h0 : 0 ≤ n := by omega) (h1 : n < l.length := by omega) : OpSem P B o e M (.p (f (nth l n))) none := .idxL ho hx hi ht h0 h1
theorem OpSem.l1 {t : TypeId} {x : Operand} {cs : List D} {d : D} (ht : vsz P t = some (false, 1)) (ho : o.op = .load t x := by exact rfl) (hx : opS e x = some (.p cs) := by exact rfl) (hd : cs[0]? = some d := by exact rfl) : OpSem P B o e M (.d d) none := .load1 ho hx ht hd
theorem OpSem.n {x : Operand} {t k : Nat} {α : Type} {l : List α} {f : α → List D} (ht : esz P t = some k) (ho : o.op = .call { callee := .builtin .len, args := #[x], argTypes := #[t] } := by exact rfl) (hx : opS e x = some (.d (.s k (l.map f))) := by exact rfl) : OpSem P B o e M (.d (.v (.int .i64 l.length))) none := .lenL ho hx ht
theorem OpSem.L {t : TypeId} {x : Operand} {h k n : Nat} {cs : List S} (ht : vsz P t = some (true, n)) (ho : o.op = .load t x := by exact rfl) (hx : opS e x = some (.r h k) := by exact rfl) (hM : look M h = some (.box cs) := by exact rfl) (hn : k + n ≤ cs.length := by first | decide | simp) : OpSem P B o e M (.g ((cs.drop k).take n)) none := .loadbN ho hx hM ht hn
theorem OpSem.xt {x : Operand} {n : Nat} {l : List S} (ho : o.op = .extract x n := by exact rfl) (hx : opS e x = some (.t l) := by exact rfl) (hn : l[n]? = some s := by exact rfl) : OpSem P B o e M s none := .extract ho hx hn
theorem OpSem.bd {t : TypeId} {ps : Array (Nat × Operand)} {l : List (Nat × S)} {pl : List (Nat × Nat)} {zs : List Value} {ss : List S} (hpl : places P t = some pl) (hz : zcells P t = some zs) (ho : o.op = .build t ps := by exact rfl) (hp : partsS e ps.toList = some l := by exact rfl)
  (h1 : zs.all Value.oneCell' = true := by exact rfl) (hf : fillS (pl[·]?) (zs.map fun z => .d (.v z)) l = some ss := by exact rfl) : OpSem P B o e M (.g ss) none := .build ho hp hpl hz h1 hf
theorem OpSem.lN {t : TypeId} {x : Operand} {cs : List D} {n : Nat} (ht : vsz P t = some (true, n)) (ho : o.op = .load t x := by exact rfl) (hx : opS e x = some (.p cs) := by exact rfl) (hn : n ≤ cs.length := by first | decide | simp) (h1 : (cs.take n).all D.one = true := by exact rfl) : OpSem P B o e M (.g ((cs.take n).map .d)) none := .loadN ho hx ht hn h1
theorem OpSem.nt {t : TypeId} {x : Operand} {b : Bool} (ho : o.op = .unOp .not t x := by exact rfl) (hx : opS e x = some (.d (.v (.bool b))) := by exact rfl) : OpSem P B o e M (.d (.v (.bool !b))) none := .not ho hx
theorem OpSem.ixv {t b len cap off : Nat} {x i : Operand} {kk : IntKind} {n : Int} (ht : esz P t = some 1) (ho : o.op = .indexAddr t x i := by exact rfl) (hx : opS e x = some (.d (.v (.slice (some ⟨b, off, none⟩) len cap))) := by exact rfl) (hi : opS e i = some (.d (.v (.int kk n))) := by exact rfl)
  (h0 : 0 ≤ n := by omega) (h1 : n < len := by omega) : OpSem P B o e M (.d (.v (ptr b (off + n.toNat)))) none := .idxv ho hx hi ht rfl h0 h1
end
section
variable {P : Program} {N : Nat} {w0 : World} {O0 : Nat → Nat} {ops : Array Oper} {Q : Post} {e : Env} {M : Mem} {rest : List Oper} {o o' : Oper} {s s' : S} {c : Code}
theorem Tr.g {d : Code} (h : Tr P N w0 O0 e M c (Exit.then (d.wp P Q) Q)) : Tr P N w0 O0 e M (.seq c d) Q := .seq h
theorem At.g (h : Tr P N w0 O0 e M c Q) : At N w0 O0 e M .normal (Exit.then (c.wp P Q) Q) := h
theorem Tr.r {id : Nat} {l : List Oper} (h : TrOps P N w0 O0 l.toArray Q e M l) : Tr P N w0 O0 e M (.region id l.toArray false) Q := .region h
theorem Tr.k {id : Nat} (h : Tr P N w0 O0 e M c (Exit.inBlock id Q)) : Tr P N w0 O0 e M (.block id c) Q := .block h
theorem Tr.p (h : At N w0 O0 e M .normal Q) : Tr P N w0 O0 e M .skip Q := .skip h
theorem TrOps.n (h : At N w0 O0 e M .normal Q) : TrOps P N w0 O0 ops Q e M [] := .nil h
theorem Tr.u {id : Nat} (h : At N w0 O0 e M (.exit id) Q) : Tr P N w0 O0 e M (.exit id) Q := .exit h
theorem At.u {K : Act → World → Prop} {i : Nat} (h : At N w0 O0 e M (.exit i) Q) : At N w0 O0 e M (.exit i) (Exit.then K Q) := h
theorem At.n {i : Nat} (h : At N w0 O0 e M .normal Q) : At N w0 O0 e M .normal (Exit.inBlock i Q) := h
theorem At.k {i : Nat} (h : At N w0 O0 e M .ret Q) : At N w0 O0 e M .ret (Exit.inBlock i Q) := h
theorem At.b {i : Nat} (h : At N w0 O0 e M .normal Q) : At N w0 O0 e M (.exit i) (Exit.inBlock i Q) := .block_same h
theorem Tr.t (h : At N w0 O0 e M .ret Q) : Tr P N w0 O0 e M .ret Q := .ret h
theorem At.t {K : Act → World → Prop} (h : At N w0 O0 e M .ret Q) : At N w0 O0 e M .ret (Exit.then K Q) := h
theorem TrOps.mm {x x' : Operand} {d d' : Nat} (h : TrOps P N w0 O0 ops Q ((d', s') :: (d, s) :: e) M rest) (ho : o.op = .move x := by exact rfl) (hx : opS e x = some s := by exact rfl) (hg : o.guard = none := by exact rfl) (hd : o.dst = some d := by exact rfl) (hdN : d < N := by decide)
  (ho' : o'.op = .move x' := by exact rfl) (hx' : opS ((d, s) :: e) x' = some s' := by exact rfl) (hg' : o'.guard = none := by exact rfl) (hd' : o'.dst = some d' := by exact rfl) (hdN' : d' < N := by decide) : TrOps P N w0 O0 ops Q e M (o :: o' :: rest) := TrOps.m (TrOps.m h ho' hx' hg' hd' hdN') ho hx hg hd hdN
theorem TrOps.al {t : TypeId} {zs : List Value} {d : Nat} (k : Nat) (hz : zcells P t = some zs) (h : TrOps P N w0 O0 ops Q ((d, .r k 0) :: kill k e) ((k, .box (zs.map fun z => .d (.v z))) :: killM k M) rest) (ho : o.op = .alloc t := by exact rfl) (h1 : zs.all Value.oneCell' = true := by exact rfl) (hg : o.guard = none := by exact rfl) (hd : o.dst = some d := by exact rfl) (hdN : d < N := by decide) : TrOps P N w0 O0 ops Q e M (o :: rest) := TrOps.semM (OpSem.alloc k ho hz h1) hg hd hdN h
theorem TrOps.bx {t : TypeId} {x : Operand} {ss : List S} {d : Nat} (k : Nat) (h : TrOps P N w0 O0 ops Q ((d, .r k 0) :: kill k e) ((k, .box ss) :: killM k M) rest) (ho : o.op = .box t x := by exact rfl) (hx : opS e x = some s := by exact rfl) (hs : s.cells = some ss := by exact rfl) (hk : ss.all (S.ok 9 k) = true := by exact rfl) (hg : o.guard = none := by exact rfl) (hd : o.dst = some d := by exact rfl) (hdN : d < N := by decide) : TrOps P N w0 O0 ops Q e M (o :: rest) := TrOps.semM (OpSem.box k ho hx hs hk) hg hd hdN h
theorem TrOps.mk {t k : Nat} {x y : Operand} {n : Int} {zs : List Value} {by_ d : Nat} (q : Nat) (hk : esz P t = some k) (hz : zcells P (P.elem t) = some zs) (hby : P.bytesOf (P.elem t) = by_) (h : TrOps P N w0 O0 ops Q ((d, .o q) :: kill q e) ((q, .own k (P.elem t) (List.replicate n.toNat (zs.map .v))) :: killM q M) rest)
  (ho : o.op = .makeSlice t x y := by exact rfl) (hx : opS e x = some (.d (.v (.int .i64 n))) := by exact rfl) (hy : opS e y = some (.d (.v (.int .i64 n))) := by exact rfl) (h1 : zs.all Value.oneCell' = true := by exact rfl) (hzk : zs.length = k := by exact rfl) (hk0 : 0 < k := by decide) (hn : 0 ≤ n := by omega) (hroom : by_ * n ≤ 2 ^ 48 := by omega) (hmax : n ≤ 2 ^ 63 - 1 := by omega)
  (hg : o.guard = none := by exact rfl) (hd : o.dst = some d := by exact rfl) (hdN : d < N := by decide) : TrOps P N w0 O0 ops Q e M (o :: rest) := TrOps.semM (OpSem.makeSlice q ho hx hy hk hz h1 hzk hk0 hby hn hroom hmax) hg hd hdN h
theorem Tr.lg {k : Nat} {cs : List S} {α : Type} {l : List α} {f : α → List D} (n i : Nat) (h : (l.length : Int) ≤ 9223372036854775807 → Tr P N w0 O0 e M c Q) (hn : look e n = some (.g cs) := by exact rfl) (hi : cs[i]? = some (.d (.s k (l.map f))) := by exact rfl) : Tr P N w0 O0 e M c Q := .lenG hn hi h
theorem Tr.le {k : Nat} {α : Type} {l : List α} {f : α → List D} (n : Nat) (h : (l.length : Int) ≤ 9223372036854775807 → Tr P N w0 O0 e M c Q) (hn : look e n = some (.d (.s k (l.map f))) := by exact rfl) : Tr P N w0 O0 e M c Q := .lenLe hn h
section
variable {id : Nat} {hs : List Nat} {e0 : Env} {M0 : Mem} {ps : List PO}
theorem PC.mm {x x' : Operand} {d d' : Nat} (h : PC P N w0 O0 id ops Q hs e0 M0 (ps ++ [⟨d, s, none, none, true⟩] ++ [⟨d', s', none, none, true⟩]) ((d', s') :: (d, s) :: e) rest) (ho : o.op = .move x := by exact rfl) (hx : opS e x = some s := by exact rfl) (hg : o.guard = none := by exact rfl) (hd : o.dst = some d := by exact rfl)
  (ho' : o'.op = .move x' := by exact rfl) (hx' : opS ((d, s) :: e) x' = some s' := by exact rfl) (hg' : o'.guard = none := by exact rfl) (hd' : o'.dst = some d' := by exact rfl) : PC P N w0 O0 id ops Q hs e0 M0 ps e (o :: o' :: rest) := PC.m (PC.m h ho' hx' hg' hd') ho hx hg hd
end
variable {e' : Env} {M' : Mem} {n : Nat} {L : List Bool}
theorem TrN.v (i : Nat) (h : TrOps P N w0 O0 ops (nrm (wpAny P .any ops Q n (L.set i true).toArray)) e M [o]) (ho : ops[i]? = some o := by exact rfl) : TrN P N w0 O0 ops Q n L e M i := ⟨o, ho, h⟩
theorem TrN.m {i d : Nat} {x : Operand} {L' : List Bool} (h : TrL P N w0 O0 ops Q n L' e' M') (ho : ops[i]? = some o := by exact rfl) (hop : o.op = .move x := by exact rfl) (hx : opS e x = some s := by exact rfl) (hg : o.guard = none := by exact rfl) (hd : o.dst = some d := by exact rfl) (hdN : d < N := by decide) (hL : L.set i true = L' := by exact rfl)
  (hs : Sub ((d, s) :: e) M e' M' := by repeat' first | exact .nil | refine .slot rfl (.refl _) ?_ | refine .mem rfl ?_) : TrN P N w0 O0 ops Q n L e M i := ⟨o, ho, TrOps.m (TrOps.j h hL hs) hop hx hg hd hdN⟩
theorem TrN.x {i d : Nat} {L' : List Bool} (ho : ops[i]? = some o) (hsem : OpSem P w0.heap.size o e M s none) (h : TrL P N w0 O0 ops Q n L' e' M') (hg : o.guard = none := by exact rfl) (hd : o.dst = some d := by exact rfl) (hdN : d < N := by decide) (hL : L.set i true = L' := by exact rfl)
  (hs : Sub ((d, s) :: e) M e' M' := by repeat' first | exact .nil | refine .slot rfl (.refl _) ?_ | refine .mem rfl ?_) : TrN P N w0 O0 ops Q n L e M i := ⟨o, ho, TrOps.x hsem (TrOps.j h hL hs) hg hd hdN⟩
end
section
variable {e e' : Env} {M M' : Mem} {n1 n2 n3 n4 n5 n6 n7 n8 : Nat} {s1 s2 s3 s4 s5 s6 s7 s8 t1 t2 t3 t4 t5 t6 t7 t8 : S}
theorem Sub.p2 (t : Sub e M e' M') (h1 : look e n1 = some s1 := by exact rfl) (k1 : Le s1 t1 := by exact .refl _) (h2 : look e n2 = some s2 := by exact rfl) (k2 : Le s2 t2 := by exact .refl _) : Sub e M ((n1, t1) :: (n2, t2) :: e') M' := .slot h1 k1 (.slot h2 k2 t)
theorem Sub.p3 (t : Sub e M e' M') (h1 : look e n1 = some s1 := by exact rfl) (k1 : Le s1 t1 := by exact .refl _) (h2 : look e n2 = some s2 := by exact rfl) (k2 : Le s2 t2 := by exact .refl _) (h3 : look e n3 = some s3 := by exact rfl) (k3 : Le s3 t3 := by exact .refl _) : Sub e M ((n1, t1) :: (n2, t2) :: (n3, t3) :: e') M' := .slot h1 k1 (.p2 t h2 k2 h3 k3)
theorem Sub.p5 (t : Sub e M e' M') (h1 : look e n1 = some s1 := by exact rfl) (k1 : Le s1 t1 := by exact .refl _) (h2 : look e n2 = some s2 := by exact rfl) (k2 : Le s2 t2 := by exact .refl _) (h3 : look e n3 = some s3 := by exact rfl) (k3 : Le s3 t3 := by exact .refl _) (h4 : look e n4 = some s4 := by exact rfl) (k4 : Le s4 t4 := by exact .refl _) (h5 : look e n5 = some s5 := by exact rfl) (k5 : Le s5 t5 := by exact .refl _) : Sub e M ((n1, t1) :: (n2, t2) :: (n3, t3) :: (n4, t4) :: (n5, t5) :: e') M' := .p2 (.p3 t h3 k3 h4 k4 h5 k5) h1 k1 h2 k2
end
end Go.Eng
end

section
namespace Go.Proofs.YthjmgcopfipabaaGreat
open Go.Eng
theorem mixed : Tryz.prog.follows .mixedOrders = true := by kernel_rfl
theorem by22 : Tryz.prog.bytesOf 22 = 24 := by kernel_rfl
theorem by3 : Tryz.prog.bytesOf 3 = 8 := by kernel_rfl
theorem by55 : Tryz.prog.bytesOf 55 = 32 := by kernel_rfl
theorem by62 : Tryz.prog.bytesOf 62 = 16 := by kernel_rfl
theorem by64 : Tryz.prog.bytesOf 64 = 4 := by kernel_rfl
theorem bye103 : Tryz.prog.bytesOf (Tryz.prog.elem 103) = 16 := by kernel_rfl
theorem bye22 : Tryz.prog.bytesOf (Tryz.prog.elem 22) = 8 := by kernel_rfl
theorem bye75 : Tryz.prog.bytesOf (Tryz.prog.elem 75) = 1 := by kernel_rfl
theorem bye77 : Tryz.prog.bytesOf (Tryz.prog.elem 77) = 24 := by kernel_rfl
theorem cv101_3 : cvk Tryz.prog 101 3 = some .i64 := by kernel_rfl
theorem cv3_101 : cvk Tryz.prog 3 101 = some .u64 := by kernel_rfl
theorem el103 : Tryz.prog.elem 103 = 62 := by kernel_rfl
theorem el22 : Tryz.prog.elem 22 = 3 := by kernel_rfl
theorem el32 : Tryz.prog.elem 32 = 55 := by kernel_rfl
theorem el58 : Tryz.prog.elem 58 = 22 := by kernel_rfl
theorem el67 : Tryz.prog.elem 67 = 64 := by kernel_rfl
theorem el75 : Tryz.prog.elem 75 = 4 := by kernel_rfl
theorem es103 : esz Tryz.prog 103 = some 2 := by kernel_rfl
theorem es22 : esz Tryz.prog 22 = some 1 := by kernel_rfl
theorem es23 : esz Tryz.prog 23 = some 4 := by kernel_rfl
theorem es32 : esz Tryz.prog 32 = some 2 := by kernel_rfl
theorem es58 : esz Tryz.prog 58 = some 1 := by kernel_rfl
theorem es67 : esz Tryz.prog 67 = some 1 := by kernel_rfl
theorem es75 : esz Tryz.prog 75 = some 1 := by kernel_rfl
theorem es77 : esz Tryz.prog 77 = some 1 := by kernel_rfl
theorem f1_28_0 : fo1 Tryz.prog 28 0 = some 0 := by kernel_rfl
theorem f1_62_0 : fo1 Tryz.prog 62 0 = some 0 := by kernel_rfl
theorem fo122_0 : fof Tryz.prog 122 0 = some 0 := by kernel_rfl
theorem fo122_1 : fof Tryz.prog 122 1 = some 1 := by kernel_rfl
theorem fo122_2 : fof Tryz.prog 122 2 = some 2 := by kernel_rfl
theorem fo25_0 : fof Tryz.prog 25 0 = some 0 := by kernel_rfl
theorem fo25_1 : fof Tryz.prog 25 1 = some 1 := by kernel_rfl
theorem fo25_2 : fof Tryz.prog 25 2 = some 2 := by kernel_rfl
theorem fo25_3 : fof Tryz.prog 25 3 = some 3 := by kernel_rfl
theorem fo28_0 : fof Tryz.prog 28 0 = some 0 := by kernel_rfl
theorem fo41_0 : fof Tryz.prog 41 0 = some 0 := by kernel_rfl
theorem fo41_1 : fof Tryz.prog 41 1 = some 1 := by kernel_rfl
theorem fo41_2 : fof Tryz.prog 41 2 = some 2 := by kernel_rfl
theorem fo41_3 : fof Tryz.prog 41 3 = some 3 := by kernel_rfl
theorem fo45_0 : fof Tryz.prog 45 0 = some 0 := by kernel_rfl
theorem fo45_1 : fof Tryz.prog 45 1 = some 1 := by kernel_rfl
theorem fo55_0 : fof Tryz.prog 55 0 = some 0 := by kernel_rfl
theorem fo55_1 : fof Tryz.prog 55 1 = some 1 := by kernel_rfl
theorem fo62_0 : fof Tryz.prog 62 0 = some 0 := by kernel_rfl
theorem fo62_1 : fof Tryz.prog 62 1 = some 1 := by kernel_rfl
theorem fo81_0 : fof Tryz.prog 81 0 = some 0 := by kernel_rfl
theorem fo81_1 : fof Tryz.prog 81 1 = some 1 := by kernel_rfl
theorem fo81_2 : fof Tryz.prog 81 2 = some 2 := by kernel_rfl
theorem fo85_0 : fof Tryz.prog 85 0 = some 0 := by kernel_rfl
theorem fo87_0 : fof Tryz.prog 87 0 = some 0 := by kernel_rfl
theorem fo87_1 : fof Tryz.prog 87 1 = some 1 := by kernel_rfl
theorem fo97_0 : fof Tryz.prog 97 0 = some 0 := by kernel_rfl
theorem fo97_1 : fof Tryz.prog 97 1 = some 4 := by kernel_rfl
theorem fo97_2 : fof Tryz.prog 97 2 = some 5 := by kernel_rfl
theorem fo97_3 : fof Tryz.prog 97 3 = some 6 := by kernel_rfl
theorem io28 : intsOf Tryz.prog 28 2 = true := by kernel_rfl
theorem io45 : intsOf Tryz.prog 45 2 = true := by kernel_rfl
theorem io62 : intsOf Tryz.prog 62 2 = true := by kernel_rfl
theorem mt66 : Tryz.prog.underlying 66 = some (.map 64 3) := by kernel_rfl
theorem pl122 : places Tryz.prog 122 = some [(0, 1), (1, 1), (2, 1)] := by kernel_rfl
theorem pl25 : places Tryz.prog 25 = some [(0, 1), (1, 1), (2, 1), (3, 1)] := by kernel_rfl
theorem pl28 : places Tryz.prog 28 = some [(0, 1), (1, 1)] := by kernel_rfl
theorem pl41 : places Tryz.prog 41 = some [(0, 1), (1, 1), (2, 1), (3, 1)] := by kernel_rfl
theorem pl45 : places Tryz.prog 45 = some [(0, 1), (1, 1)] := by kernel_rfl
theorem pl55 : places Tryz.prog 55 = some [(0, 1), (1, 1)] := by kernel_rfl
theorem pl62 : places Tryz.prog 62 = some [(0, 1), (1, 1)] := by kernel_rfl
theorem pl81 : places Tryz.prog 81 = some [(0, 1), (1, 1), (2, 1)] := by kernel_rfl
theorem pl85 : places Tryz.prog 85 = some [(0, 1), (1, 1)] := by kernel_rfl
theorem pl87 : places Tryz.prog 87 = some [(0, 1), (1, 2), (3, 2), (5, 2), (7, 2)] := by kernel_rfl
theorem pl97 : places Tryz.prog 97 = some [(0, 4), (4, 1), (5, 1), (6, 1)] := by kernel_rfl
theorem ub4 : Tryz.prog.underlying 4 = some .bool := by kernel_rfl
theorem vs22 : vsz Tryz.prog 22 = some (false, 1) := by kernel_rfl
theorem vs23 : vsz Tryz.prog 23 = some (false, 1) := by kernel_rfl
theorem vs25 : vsz Tryz.prog 25 = some (true, 4) := by kernel_rfl
theorem vs28 : vsz Tryz.prog 28 = some (true, 2) := by kernel_rfl
theorem vs3 : vsz Tryz.prog 3 = some (false, 1) := by kernel_rfl
theorem vs4 : vsz Tryz.prog 4 = some (false, 1) := by kernel_rfl
theorem vs41 : vsz Tryz.prog 41 = some (true, 4) := by kernel_rfl
theorem vs45 : vsz Tryz.prog 45 = some (true, 2) := by kernel_rfl
theorem vs55 : vsz Tryz.prog 55 = some (true, 2) := by kernel_rfl
theorem vs58 : vsz Tryz.prog 58 = some (false, 1) := by kernel_rfl
theorem vs62 : vsz Tryz.prog 62 = some (true, 2) := by kernel_rfl
theorem vs64 : vsz Tryz.prog 64 = some (false, 1) := by kernel_rfl
theorem vs75 : vsz Tryz.prog 75 = some (false, 1) := by kernel_rfl
theorem vs76 : vsz Tryz.prog 76 = some (false, 1) := by kernel_rfl
theorem vs81 : vsz Tryz.prog 81 = some (true, 3) := by kernel_rfl
theorem vs85 : vsz Tryz.prog 85 = some (true, 2) := by kernel_rfl
theorem vs87 : vsz Tryz.prog 87 = some (true, 9) := by kernel_rfl
theorem zc122 : zcells Tryz.prog 122 = some [.slice none 0 0, .slice none 0 0, .int .i64 0] := by kernel_rfl
theorem zc22 : zcells Tryz.prog 22 = some [.slice none 0 0] := by kernel_rfl
theorem zc25 : zcells Tryz.prog 25 = some [.int .i64 0, .slice none 0 0, .slice none 0 0, .slice none 0 0] := by kernel_rfl
theorem zc28 : zcells Tryz.prog 28 = some [.int .i64 0, .int .i64 0] := by kernel_rfl
theorem zc3 : zcells Tryz.prog 3 = some [.int .i64 0] := by kernel_rfl
theorem zc41 : zcells Tryz.prog 41 = some [.slice none 0 0, .slice none 0 0, .slice none 0 0, .int .i64 0] := by kernel_rfl
theorem zc45 : zcells Tryz.prog 45 = some [.int .i64 0, .int .i64 0] := by kernel_rfl
theorem zc55 : zcells Tryz.prog 55 = some [.slice none 0 0, .int .i64 0] := by kernel_rfl
theorem zc62 : zcells Tryz.prog 62 = some [.int .i64 0, .int .i64 0] := by kernel_rfl
theorem zc64 : zcells Tryz.prog 64 = some [.int .u32 0] := by kernel_rfl
theorem zc75 : zcells Tryz.prog 75 = some [.slice none 0 0] := by kernel_rfl
theorem zc76 : zcells Tryz.prog 76 = some [.nilFunc] := by kernel_rfl
theorem zc81 : zcells Tryz.prog 81 = some [.slice none 0 0, .slice none 0 0, .slice none 0 0] := by kernel_rfl
theorem zc85 : zcells Tryz.prog 85 = some [.slice none 0 0, .int .i64 0] := by kernel_rfl
theorem zc87 : zcells Tryz.prog 87 = some [.int .i64 0, .int .i64 0, .int .i64 0, .slice none 0 0, .int .i64 0, .slice none 0 0, .int .i64 0, .slice none 0 0, .int .i64 0] := by kernel_rfl
theorem zc97 : zcells Tryz.prog 97 = some [.int .i64 0, .slice none 0 0, .slice none 0 0, .slice none 0 0, .slice none 0 0, .slice none 0 0, .slice none 0 0] := by kernel_rfl
theorem ze103 : zcells Tryz.prog (Tryz.prog.elem 103) = some [.int .i64 0, .int .i64 0] := by kernel_rfl
theorem ze22 : zcells Tryz.prog (Tryz.prog.elem 22) = some [.int .i64 0] := by kernel_rfl
theorem ze23 : zcells Tryz.prog (Tryz.prog.elem 23) = some [.slice none 0 0, .slice none 0 0, .slice none 0 0, .int .i64 0] := by kernel_rfl
theorem ze32 : zcells Tryz.prog (Tryz.prog.elem 32) = some [.slice none 0 0, .int .i64 0] := by kernel_rfl
theorem ze58 : zcells Tryz.prog (Tryz.prog.elem 58) = some [.slice none 0 0] := by kernel_rfl
theorem ze67 : zcells Tryz.prog (Tryz.prog.elem 67) = some [.int .u32 0] := by kernel_rfl
theorem ze75 : zcells Tryz.prog (Tryz.prog.elem 75) = some [.bool false] := by kernel_rfl
theorem ze77 : zcells Tryz.prog (Tryz.prog.elem 77) = some [.slice none 0 0] := by kernel_rfl
theorem zv3 : (Tryz.prog.info? 3).bind (·.zero) = some (.int .i64 0) := by kernel_rfl
end Go.Proofs.YthjmgcopfipabaaGreat
end

section
namespace Go.Proofs.YthjmgcopfipabaaGreat
open Go.Eng
set_option maxRecDepth 10000
set_option maxHeartbeats 1000000
theorem R_In_does (n a b : Int) : Does Tryz.prog false 13 [I (n), I (a), I (b)] (Bo (decide (a ≤ n ∧ n ≤ b))) := by
 refine Does.of_body Tryz.func13 rfl rfl (by simp) Tryz.call13 (fun w0 O0 => ?_); refine .g <| .r <| .a ?_; refine .z <| .mm ?_; refine .x (.b bgeq) ?_; refine .m ?_; refine .split (n := 10) rfl (fun c10 => ?_) (fun c10 => ?_)
 ·refine .gt c10 ?_; refine .m ?_; refine .gt c10 ?_; refine .m ?_; refine .gt c10 ?_; refine .x (.b bleq) ?_; refine .x (OpSem.pickT rfl rfl c10 rfl) ?_; refine .a ?_; exact .sq <| .t <| .ret rfl (.tmp rfl <| .nil) rfl (Le.bo (by simp at *; omega))
 ·refine .gf c10 ?_; refine .gf c10 ?_; refine .gf c10 ?_; refine .x (OpSem.pickF rfl rfl c10 rfl) ?_; refine .a ?_; exact .sq <| .t <| .ret rfl (.tmp rfl <| .nil) rfl (Le.bo (by simp at *; omega))
theorem R_At_does (a b : Int) : Does Tryz.prog false 18 [I (a), I (b)] (flt (a, b)) := by
 refine Does.of_body Tryz.func18 rfl rfl (by simp) Tryz.call18 (fun w0 O0 => ?_); refine .g <| .r <| .al 4 zc28 ?_; refine .z <| .mm ?_; refine .x (.bd pl28 zc28) ?_; refine .sb vs28 ?_; exact .sq <| .t <| .ret rfl (.cellN rfl rfl vs28 <| .nil) rfl (.refl _)
theorem slices_IndexFunc_int_int_does (l : List Int) (fn : Nat) (cs : List S) (p : Int → Bool) (hcs : Caught cs) (hf : ∀ x, x ∈ l → Does Tryz.prog false fn ([I x] ++ cs) (Bo (p x))) : Does Tryz.prog false 61 [.d (ints l), .f fn [] cs] (I (findI p l)) := by
 refine Does.of_body Tryz.func61 rfl rfl (by simp) Tryz.call61 (fun w0 O0 => ?_); refine .le 0 fun len0 => ?_; refine .g <| .r <| .a ?_; refine .sq <| .g <| .g <| .r <| .m ?_; refine .x (.n es22) ?_; refine .m ?_; refine .sq <| .k <| .loop (X := Nat) (fun k => k ≤ l.length ∧ ∀ j : Nat, j < k → p (nth l j) = false) (fun k => [(0, .d (ints l)), (1, .f fn [] cs), (7, I (l.length)), (8, I (k))]) (fun k => []) (fun k => l.length - k) 0 ⟨by omega, by simp⟩ ?_ ?_
 ·exact .p3 <| .slot rfl (Le.of_eq (by simp)) <| .nil
 ·rintro k ⟨hkl, hinv⟩
  refine .g <| .r <| .x (.b blss) ?_; refine .sq <| .g <| .cond rfl (fun c9 => ?_) (fun c9 => ?_)
  ·have hk : k < l.length := by simpa using c9
   refine .p <| .g <| .g <| .k <| .g <| .r <| .m ?_; refine .a ?_; refine .z <| .mm ?_; refine .m ?_; refine .x (.i es22) ?_; refine .x (.l1 vs3) ?_; refine .x (OpSem.call0 (hf _ (nth_mem (by omega) (by omega))) rfl rfl rfl (hcs.app rfl) (Les.refl _)) ?_; refine .sq <| .cond rfl (fun c16 => ?_) (fun c16 => ?_)
   ·refine .g <| .r <| .m ?_; refine .a ?_; exact .sq <| .t <| .k <| .t <| .t <| .k <| .t <| .ret rfl (.tmp rfl <| .nil) rfl (Le.i (findI_some hk hinv c16).symm)
   ·refine .p <| .n <| .y <| .x .ad ?_; refine .m ?_; refine .n <| .again (k + 1) ⟨by omega, all_succ hinv c16⟩ ?_ (by omega); exact .p3 <| .slot rfl (Le.of_eq (by simp)) <| .nil
  ·have hk : k = l.length := by simp at c9; omega
   refine .u <| .u <| .u <| .b <| .z <| .a ?_; exact .sq <| .t <| .ret rfl (.tmp rfl <| .nil) rfl (Le.i (by subst hk; exact (findI_none hinv).symm))
theorem slices_ContainsFunc_int_int_does (l : List Int) (fn : Nat) (cs : List S) (p : Int → Bool) (hcs : Caught cs) (hf : ∀ x, x ∈ l → Does Tryz.prog false fn ([I x] ++ cs) (Bo (p x))) : Does Tryz.prog false 35 [.d (ints l), .f fn [] cs] (Bo (l.any p)) := by
 refine Does.of_body Tryz.func35 rfl rfl (by simp) Tryz.call35 (fun w0 O0 => ?_); refine .le 0 fun len0 => ?_; refine .g <| .r <| .a ?_; refine .z <| .mm ?_; refine .x (OpSem.call0 (slices_IndexFunc_int_int_does l fn cs p hcs hf) rfl rfl rfl (hcs.arg rfl) (Les.refl _)) ?_; refine .x (.b bgeq) ?_; refine .a ?_; exact .sq <| .t <| .ret rfl (.tmp rfl <| .nil) rfl (Le.bo findI_any)
end Go.Proofs.YthjmgcopfipabaaGreat
end

section
namespace Go.Eng
structure Valid (m : Multi) : Prop where
  len : 1 ≤ m.sizes.length ∧ m.sizes.length ≤ 8
  sizes : SizesP m.sizes
  init : StateP m.sizes m.init
  goal : AsgsP m.sizes m.goal
  opsLen : m.ops.length ≤ 40
  op : ∀ i : Nat, i < m.ops.length → AsgsP m.sizes (nth m.ops i).pre ∧ AsgsP m.sizes (nth m.ops i).post ∧ 0 ≤ (nth m.ops i).cost ∧ (nth m.ops i).cost ≤ 100
def valTo (w : List (List Int)) (s : List Int) : Nat → Int
  | 0 => 0
  | k + 1 => valTo w s k + nth (nth w k) (nth s k)
def val (w : List (List Int)) (s : List Int) : Int := valTo w s s.length
end Go.Eng
end

section
namespace Go.Proofs.YthjmgcopfipabaaGreat
open Go.Eng
set_option maxRecDepth 10000
set_option maxHeartbeats 1000000
end Go.Proofs.YthjmgcopfipabaaGreat
end

section
namespace Go.Eng
open Go
theorem Tr.weak {P : Program} {N : Nat} {w0 : World} {O0 : Nat → Nat} {Q : Post} {e : Env} {M : Mem} {c : Code} {s s' : S} (n : Nat) (hn : look e n = some s) (hl : Le s s') (h : Tr P N w0 O0 ((n, s') :: e) M c Q) : Tr P N w0 O0 e M c Q := by
 intro O H a w hst
 refine h O H a w ⟨hst.df, hst.sz, hst.bl, hst.lab, fun k t hk => ?_, hst.mem⟩
 rcases look_cons hk with ⟨rfl, rfl⟩ | ⟨_, hk⟩
 ·obtain ⟨x, hx, hr⟩ := hst.slots _ _ hn
  exact ⟨x, hx, hl _ _ _ _ hr⟩
 ·exact hst.slots k t hk
end Go.Eng
namespace Go.Eng
open Go
theorem rows_get {α : Type} [Inhabited α] {l : List α} {f : α → List D} {n : Int} (h0 : 0 ≤ n) (h1 : n < l.length) : (l.map f)[n.toNat]? = some (f (nth l n)) := by
 have hk : n.toNat < l.length := by omega
 simp only [List.getElem?_map, List.getElem?_eq_getElem hk, Option.map_some]
 rw [← nth_eq hk, Int.toNat_of_nonneg h0]
def setI {α : Type} (l : List α) (i : Int) (v : α) : List α := l.set i.toNat v
theorem rows_set {α : Type} {l : List α} {f : α → List D} {i : Nat} {v : α} : (l.map f).set i (f v) = (l.set i v).map f := by rw [List.map_set]
theorem setI_len {α : Type} {l : List α} {i : Int} {v : α} : (setI l i v).length = l.length := by simp [setI]
theorem nth_setI {α : Type} [Inhabited α] {l : List α} {i : Int} {v : α} {n : Int} (h0 : 0 ≤ n) (h1 : n < l.length) (hi : 0 ≤ i) : nth (setI l i v) n = if n = i then v else nth l n := by
 have e1 : nth (setI l i v) n = nth (setI l i v) (n.toNat : Int) := by rw [Int.toNat_of_nonneg h0]
 have e2 : nth l n = nth l (n.toNat : Int) := by rw [Int.toNat_of_nonneg h0]
 rw [e1, e2, nth_eq (by rw [setI_len]; omega), nth_eq (by omega)]
 simp only [setI, List.getElem_set]
 by_cases h : n = i
 ·rw [if_pos (by rw [h]), if_pos h]
 ·rw [if_neg (by omega), if_neg h]
def nextTo (s : List Int) (l : List Asg) : Nat → List Int
 | 0 => s
 | k + 1 => setI (nextTo s l k) (nth l k).1 (nth l k).2
def nextS (s : List Int) (l : List Asg) : List Int := nextTo s l l.length
def holds (s : List Int) (l : List Asg) : Bool := !(l.any fun a => !decide (nth s a.1 = a.2))
theorem caught_p (l : List D) : Caught [.p l] := by
 intro n hn
 obtain ⟨m, rfl⟩ : ∃ m, n = m + 1 := ⟨n - 1, by omega⟩
 rfl
end Go.Eng
namespace Go.Eng
open Go
end Go.Eng
end

section
namespace Go.Proofs.YthjmgcopfipabaaGreat
open Go.Eng
set_option maxRecDepth 10000
set_option maxHeartbeats 1000000
end Go.Proofs.YthjmgcopfipabaaGreat
end

section
namespace Go.Proofs.YthjmgcopfipabaaGreat
open Go.Eng
set_option maxRecDepth 10000
set_option maxHeartbeats 1000000
theorem slices_Clone_int_int_does (l : List Int) (hl : l.length ≤ 1000000) : DoesO Tryz.prog 70 [.d (ints l)] 1 3 ((l.map fun n => [D.v (.int .i64 n)])) := by
 refine DoesO.of_body Tryz.func70 rfl rfl (by simp) Tryz.call70 (fun w0 O0 => ?_); refine .le 0 fun len0 => ?_; refine .g <| .r <| .a ?_; refine .sq <| .g <| .g <| .r <| .m ?_; refine .eqNil rfl rfl es22 rfl rfl (by decide) (fun b4 hb4 => ?_); refine .sq <| .cond rfl (fun c4 => ?_) (fun c4 => ?_)
 ·refine .g <| .r <| .a ?_; exact .sq <| .t <| .t <| .retONil rfl rfl (hb4 c4)
 ·refine .p <| .z <| .semM (OpSem.buildO 5 rfl es22 (by decide)) rfl rfl (by decide) ?_; refine .m ?_; refine .ap es22 el22 zc3 by3 ?_; refine .a ?_; exact .sq <| .t <| .retO2 rfl rfl rfl (by simp) (by simp)
end Go.Proofs.YthjmgcopfipabaaGreat
end

section
namespace Go.Eng
open Go Go.RowKit
theorem DoesO.fresh {P : Program} {f : Nat} {args : List S} {k T : Nat} {rows : List (List D)} (h : DoesO P f args k T rows) : Does P true f args (.d (.s k rows)) :=
 ⟨h.can, fun O w xs hl hx => (h.run O w xs hl hx).mono fun en w' ⟨x, he, hb, hr⟩ => ⟨x, he, hb, by
  rcases hr with ⟨rfl, rfl⟩ | ⟨b, cap, xs', rfl, hB, hbl, hlc, hcm, hsz, hw, hc⟩
  ·exact .d _ _ (.e none 0 k (by simp [maxLen]))
  ·refine .d _ _ (.s b 0 cap k rows (fun n => (xs'[n]?).getD undef) hlc hcm hw (fun _ _ _ _ _ _ => by simp [freshO, Fr, hB]) (fun i r j d hi hj => ?_) (fun i r j d hi hj => ?_))
   ·obtain ⟨y, hy, _⟩ := hc i r j d hi hj
    rw [cellOf hbl (by rw [Nat.zero_add]; exact hy), hy]; rfl
   ·obtain ⟨y, hy, rfl, _⟩ := hc i r j d hi hj
    simp only [hy, Option.getD_some]
    exact .v _⟩⟩
def ranksTo (sizes : List Int) : Nat → Int
 | 0 => 1
 | k + 1 => ranksTo sizes k * nth sizes k
def ranks (sizes : List Int) : Int := ranksTo sizes sizes.length
def quoTo (sizes : List Int) (n : Int) : Nat → Int
 | 0 => n
 | j + 1 => quoTo sizes n j / nth sizes (sizes.length - 1 - j : Nat)
def digit (sizes : List Int) (n : Int) (v : Nat) : Int := quoTo sizes n (sizes.length - 1 - v) % nth sizes v
def unrank (sizes : List Int) (n : Int) : List Int := (List.range sizes.length).map fun (v : Nat) => digit sizes n v
def rankTo (sizes s : List Int) : Nat → Int
 | 0 => 0
 | k + 1 => rankTo sizes s k * nth sizes k + nth s k
def rank (sizes s : List Int) : Int := rankTo sizes s s.length
section
variable {p : List Int → Bool} {f : List Int → Int} {sizes : List Int}
end
end Go.Eng
end

section
namespace Go.Proofs.YthjmgcopfipabaaGreat
open Go.Eng
set_option maxRecDepth 10000
set_option maxHeartbeats 1000000
end Go.Proofs.YthjmgcopfipabaaGreat
end

section
namespace Go.Eng
open Go
abbrev stAt (m : Multi) (n : Nat) : List Int := unrank m.sizes n
def rkAt (m : Multi) (n j : Nat) : Int := rank m.sizes (nextS (stAt m n) (nth m.ops j).post)
def initC (m : Multi) (k : Nat) : List Int := (List.range k).map fun n => if holds (stAt m n) m.goal = true then 0 else 1000000000
def stepC (m : Multi) (c : List Int × Bool) (n j : Nat) : List Int × Bool :=
 if holds (stAt m n) (nth m.ops j).pre = true then
  if nth c.1 (rkAt m n j) < 1000000000 ∧ nth c.1 (rkAt m n j) + (nth m.ops j).cost < nth c.1 n then (setI c.1 n (nth c.1 (rkAt m n j) + (nth m.ops j).cost), true) else c
 else c
def opsTo (m : Multi) (c : List Int × Bool) (n : Nat) : Nat → List Int × Bool
 | 0 => c
 | j + 1 => stepC m (opsTo m c n j) n j
def sweepTo (m : Multi) (c : List Int) : Nat → List Int × Bool
 | 0 => (c, false)
 | n + 1 => opsTo m (sweepTo m c n) n m.ops.length
def nR (m : Multi) : Nat := (ranks m.sizes).toNat
def sweep (m : Multi) (c : List Int) : List Int × Bool := sweepTo m c (nR m)
def itC (m : Multi) : Nat → List Int
 | 0 => initC m (nR m)
 | j + 1 => (sweep m (itC m j)).1
open Classical in
noncomputable def costs (m : Multi) : List Int := if h : ∃ j, (sweep m (itC m j)).2 = false then itC m (Classical.choose h) else List.replicate (nR m) 1000000000
section
variable {m : Multi} (hv : Valid m)
include hv
end
theorem sum_nn : ∀ {l : List Int}, (∀ x, x ∈ l → 0 ≤ x) → 0 ≤ l.sum
 | [], _ => by simp
 | a :: l, h => by
  have h1 := h a (by simp)
  have h2 := sum_nn (l := l) (fun x hx => h x (by simp [hx]))
  simp only [List.sum_cons]
  omega
section
variable {m : Multi} (hv : Valid m)
include hv
omit hv in
theorem itC_stay {j : Nat} (h : (sweep m (itC m j)).2 = false) (he : itC m (j + 1) = itC m j) : ∀ d, itC m (j + d) = itC m j
 | 0 => rfl
 | d + 1 => by
  have ih := itC_stay h he d
  show (sweep m (itC m (j + d))).1 = _
  rw [ih]; exact he
end
section
variable {m : Multi} (hv : Valid m)
include hv
end
end Go.Eng
namespace Go.Eng
open Go
abbrev PatOk (sizes vars : List Int) (i : Nat) : Prop := 0 ≤ nth vars i ∧ nth vars i < sizes.length ∧ (0 < i → nth vars (i - 1 : Int) < nth vars i)
abbrev PatP (sizes vars : List Int) : Prop := ∀ i : Nat, i < vars.length → PatOk sizes vars i
def prodTo (sizes vars : List Int) : Nat → Int
 | 0 => 1
 | k + 1 => prodTo sizes vars k * nth sizes (nth vars k)
end Go.Eng
end

section
namespace Go.Proofs.YthjmgcopfipabaaGreat
open Go.Eng
set_option maxRecDepth 10000
set_option maxHeartbeats 1000000
end Go.Proofs.YthjmgcopfipabaaGreat
end

section
namespace Go.Eng
open Go
theorem ext_get {α : Type} [Inhabited α] {l l' : List α} (hl : l.length = l'.length) (h : ∀ i : Nat, i < l.length → nth l i = nth l' i) : l = l' := by
 refine List.ext_getElem hl fun i h1 h2 => ?_
 have := h i h1
 rwa [nth_eq h1, nth_eq h2] at this
section
variable {sizes vars : List Int} (hp : PatP sizes vars)
include hp
end
section
variable {m : Multi} (hv : Valid m)
include hv
omit hv in
theorem stepC_flag {c : List Int × Bool} {n j : Nat} (h : (stepC m c n j).2 = false) (hh : c.2 = false) : stepC m c n j = c := by
 unfold stepC at h ⊢
 split at h
 ·rename_i hp
  rw [if_pos hp]
  split at h
  ·cases h
  ·rename_i hk; rw [if_neg hk]
 ·rename_i hp; rw [if_neg hp]
omit hv in
theorem stepC_true {c : List Int × Bool} {n j : Nat} (hh : c.2 = true) : (stepC m c n j).2 = true := by
 unfold stepC
 split
 ·split
  ·rfl
  ·exact hh
 ·exact hh
omit hv in
theorem opsTo_true {c : List Int × Bool} {n : Nat} (hh : c.2 = true) : ∀ k : Nat, (opsTo m c n k).2 = true
 | 0 => hh
 | k + 1 => stepC_true (opsTo_true hh k)
omit hv in
theorem opsTo_flag {c : List Int × Bool} {n : Nat} : ∀ {k : Nat}, (opsTo m c n k).2 = false → c.2 = false ∧ opsTo m c n k = c ∧ ∀ j : Nat, j < k → stepC m c n j = c
 | 0, h => ⟨h, rfl, fun j hj => by omega⟩
 | k + 1, h => by
  have h1 : (opsTo m c n k).2 = false := by
   cases hf : (opsTo m c n k).2 with
   | false => rfl
   | true => have := stepC_true (m := m) (n := n) (j := k) hf; have h' : (stepC m (opsTo m c n k) n k).2 = false := h; rw [this] at h'; cases h'
  obtain ⟨a, b, d⟩ := opsTo_flag h1
  have h2 : stepC m (opsTo m c n k) n k = opsTo m c n k := stepC_flag h h1
  refine ⟨a, by show stepC m (opsTo m c n k) n k = c; rw [h2, b], fun j hj => ?_⟩
  by_cases hjk : j = k
  ·subst hjk; rw [b] at h2; exact h2
  ·exact d j (by omega)
omit hv in
theorem sweepTo_flag {c : List Int} : ∀ {k : Nat}, (sweepTo m c k).2 = false → sweepTo m c k = (c, false) ∧ ∀ n : Nat, n < k → ∀ j : Nat, j < m.ops.length → stepC m (c, false) n j = (c, false)
 | 0, h => ⟨rfl, fun n hn => by omega⟩
 | k + 1, h => by
  obtain ⟨a, b, d⟩ := opsTo_flag (c := sweepTo m c k) h
  obtain ⟨e, f⟩ := sweepTo_flag a
  refine ⟨by show opsTo m (sweepTo m c k) k m.ops.length = _; rw [b, e], fun n hn j hj => ?_⟩
  by_cases hnk : n = k
  ·subst hnk; have := d j hj; rwa [e] at this
  ·exact f n (by omega) j hj
end
section
variable {sizes W vars : List Int} (hW : PatP sizes W) (hp : PatP sizes vars) (hin : ∀ i : Nat, i < vars.length → nth vars i ∈ W)
include hin
include hW hp
end
end Go.Eng
end

section
namespace Go.Eng
open Go
theorem nth_app1 {s t : List Int} {v : Nat} (h : v < s.length) : nth (s ++ t) v = nth s v := by
 rw [nth_eq (by simp; omega), nth_eq h, List.getElem_append_left h]
theorem nth_app2 {s : List Int} {x : Int} : nth (s ++ [x]) (s.length : Int) = x := by
 rw [nth_eq (by simp)]; simp
abbrev SetOk (n : Int) (l : List Int) (i : Nat) : Prop := 0 ≤ nth l i ∧ nth l i < n ∧ (0 < i → nth l (i - 1 : Int) < nth l i)
abbrev SetP (n : Int) (l : List Int) : Prop := ∀ i : Nat, i < l.length → SetOk n l i
end Go.Eng
namespace Go.Eng
open Go
end Go.Eng
end

section
namespace Go.Proofs.YthjmgcopfipabaaGreat
open Go.Eng
set_option maxRecDepth 10000
set_option maxHeartbeats 1000000
theorem R_IsSet_does (l : List Int) (n : Int) (hn : -9223372036854775807 ≤ n ∧ n ≤ 9223372036854775807) : Does Tryz.prog false 42 [.d (ints l), I (n)] (Bo (decide (SetP n l))) := by
 refine Does.of_body Tryz.func42 rfl rfl (by simp) Tryz.call42 (fun w0 O0 => ?_); refine .le 0 fun len0 => ?_; refine .g <| .r <| .a ?_; refine .sq <| .g <| .g <| .r <| .a ?_; refine .sq <| .k <| .loop (X := Nat) (fun k => k ≤ l.length ∧ ∀ i : Nat, i < k → SetOk n l i) (fun k => [(0, .d (ints l)), (1, I (n)), (5, I (k))]) (fun k => []) (fun k => l.length - k) 0 ⟨by omega, by simp⟩ ?_ ?_
 ·exact .p2 <| .slot rfl (Le.of_eq (by simp)) <| .nil
 ·rintro k ⟨hkl, hinv⟩
  refine .g <| .g <| .r <| .mm ?_; refine .x (.n es22) ?_; refine .x (.b blss) ?_; refine .sq <| .cond rfl (fun c9 => ?_) (fun c9 => ?_)
  ·have hk : k < l.length := by simpa using c9
   refine .p <| .g <| .g <| .k <| .g <| PC.start [] ?_; refine .mm ?_; refine .x (.i es22) ?_; refine .x (.l1 vs3) ?_; refine .m ?_; refine .x .su ?_; refine .x (OpSem.call0 (R_In_does ..) rfl rfl rfl rfl (Les.refl _)) ?_; refine .x .nt ?_; refine .m ?_; refine .split (n := 20) rfl (fun c20 => ?_) (fun c20 => ?_)
   ·refine .hf c20 ?_; refine .hf c20 ?_; refine .hf c20 ?_; refine .gU rfl rfl rfl rfl rfl ?_; refine .gU rfl rfl rfl rfl rfl ?_; refine .gU rfl rfl rfl rfl rfl ?_; refine .gU rfl rfl rfl rfl rfl ?_; refine .gU rfl rfl rfl rfl rfl ?_; refine .gU rfl rfl rfl rfl rfl ?_; refine .gU rfl rfl rfl rfl rfl ?_; refine .gU rfl rfl rfl rfl rfl ?_; refine .gU rfl rfl rfl rfl rfl ?_; refine .d0 mixed ?_; refine .gu ?_; refine .hf c20 ?_; refine .x (OpSem.pickT rfl rfl c20 rfl) ?_; refine .sq <| .condT rfl rfl ?_; refine .g <| .r <| .a ?_; exact .sq <| .t <| .k <| .t <| .t <| .k <| .t <| .ret rfl (.tmp rfl <| .nil) rfl (Le.bo (decide_eq_false (fun h => by have := h k hk; simp at c20; omega)).symm)
   ·refine .ht (OpSem.move (.inl rfl) rfl) c20 ?_; refine .ht (.b bgtr) c20 ?_; refine .ht (OpSem.move (.inl rfl) rfl) c20 ?_; refine .split (n := 23) rfl (fun c23 => ?_) (fun c23 => ?_)
    ·have hkp : 0 < k := by simp at c23; omega
     refine .gt (OpSem.move (.inl rfl) rfl) c23 ?_; refine .gt (OpSem.move (.inl rfl) rfl) c23 ?_; refine .gt (.i es22) c23 ?_; refine .gt (.l1 vs3) c23 ?_; refine .gt (OpSem.move (.inl rfl) rfl) c23 ?_; refine .gt (OpSem.move (.inl rfl) rfl) c23 ?_; refine .gt .su c23 ?_; refine .gt (.i es22) c23 ?_; refine .gt (.l1 vs3) c23 ?_; refine .d0 mixed ?_; refine .gt c23 ?_; refine .x (.b bleq) ?_; refine .ht c20 ?_; refine .x (OpSem.pickT rfl rfl c23 rfl) ?_; refine .x (OpSem.pickF rfl rfl c20 rfl) ?_; refine .sq <| .cond rfl (fun c35 => ?_) (fun c35 => ?_)
     ·refine .g <| .r <| .a ?_; exact .sq <| .t <| .k <| .t <| .t <| .k <| .t <| .ret rfl (.tmp rfl <| .nil) rfl (Le.bo (decide_eq_false (fun h => by have h1 := (h k hk).2.2 hkp; simp at c35; omega)).symm)
     ·refine .p <| .n <| .y <| .m ?_; refine .x .ad ?_; refine .a ?_; refine .n ?_
      have hb : SetOk n l k := by first | (simp at c20 c35; exact ⟨by omega, by omega, fun h => by omega⟩) | (simp at c20 c23; exact ⟨by omega, by omega, fun h => by omega⟩)
      refine .again (k + 1) ⟨by omega, all_succ hinv hb⟩ ?_ (by omega); exact .p2 <| .slot rfl (Le.of_eq (by simp)) <| .nil
    ·refine .gf c23 ?_; refine .gf c23 ?_; refine .gf c23 ?_; refine .gf c23 ?_; refine .gf c23 ?_; refine .gf c23 ?_; refine .gf c23 ?_; refine .gf c23 ?_; refine .gf c23 ?_; refine .d0 mixed ?_; refine .gf c23 ?_; refine .ht c20 ?_; refine .x (OpSem.pickF rfl rfl c23 rfl) ?_; refine .x (OpSem.pickF rfl rfl c20 rfl) ?_; refine .sq <| .condF rfl rfl ?_; refine .p <| .n <| .y <| .m ?_; refine .x .ad ?_; refine .a ?_; refine .n ?_
     have hb : SetOk n l k := by first | (simp at c20 c35; exact ⟨by omega, by omega, fun h => by omega⟩) | (simp at c20 c23; exact ⟨by omega, by omega, fun h => by omega⟩)
     refine .again (k + 1) ⟨by omega, all_succ hinv hb⟩ ?_ (by omega); exact .p2 <| .slot rfl (Le.of_eq (by simp)) <| .nil
  ·have hk : k = l.length := by simp at c9; omega
   refine .u <| .u <| .u <| .b <| .z <| .a ?_; exact .sq <| .t <| .ret rfl (.tmp rfl <| .nil) rfl (Le.bo (decide_eq_true (by subst hk; exact hinv)).symm)
end Go.Proofs.YthjmgcopfipabaaGreat
end

section
namespace Go.Eng
open Go
structure Arc where
 fr : Int
 lab : Int
 to : Int
deriving DecidableEq
instance : Inhabited Arc := ⟨⟨0, 0, 0⟩⟩
structure Abs where
 states : Int
 labels : Int
 arcs : List Arc
 init : Int
 goals : List Int
deriving DecidableEq
instance : Inhabited Abs := ⟨⟨0, 0, [], 0, []⟩⟩
abbrev arcLt (x y : Arc) : Prop := x.fr < y.fr ∨ (x.fr = y.fr ∧ (x.lab < y.lab ∨ (x.lab = y.lab ∧ x.to < y.to)))
abbrev arcIn (a : Abs) (x : Arc) : Prop := (0 ≤ x.fr ∧ x.fr < a.states) ∧ (0 ≤ x.lab ∧ x.lab < a.labels) ∧ (0 ≤ x.to ∧ x.to < a.states)
abbrev headOk (a : Abs) : Prop := (1 ≤ a.states ∧ a.states ≤ 60) ∧ (0 ≤ a.labels ∧ a.labels ≤ 40) ∧ (0 ≤ a.init ∧ a.init < a.states)
section
variable {a : Abs}
structure AbsOk (a : Abs) : Prop where
 head : headOk a
 goals : SetP a.states a.goals
 len : a.arcs.length ≤ 400
 arc : ∀ i : Nat, i < a.arcs.length → arcIn a (nth a.arcs i)
 ord : ∀ i : Nat, 0 < i → i < a.arcs.length → arcLt (nth a.arcs (i - 1 : Int)) (nth a.arcs i)
end
structure Edge where
 fr : Int
 to : Int
 w : Int
instance : Inhabited Edge := ⟨⟨0, 0, 0⟩⟩
def stepE (d : List Int × Bool) (e : Edge) : List Int × Bool :=
 if nth d.1 e.to < 1000000000 ∧ nth d.1 e.to + e.w < nth d.1 e.fr then (setI d.1 e.fr (nth d.1 e.to + e.w), true) else d
def roundTo (E : List Edge) (d : List Int) : Nat → List Int × Bool
 | 0 => (d, false)
 | k + 1 => stepE (roundTo E d k) (nth E k)
def roundE (E : List Edge) (d : List Int) : List Int × Bool := roundTo E d E.length
def itE (E : List Edge) (d : List Int) : Nat → List Int
 | 0 => d
 | j + 1 => (roundE E (itE E d j)).1
open Classical in
noncomputable def fixE (E : List Edge) (d : List Int) : List Int := if h : ∃ j, (roundE E (itE E d j)).2 = false then itE E d (Classical.choose h) else d
abbrev EdgeOk (n : Nat) (E : List Edge) : Prop := ∀ i : Nat, i < E.length → (0 ≤ (nth E i).fr ∧ (nth E i).fr < n) ∧ (0 ≤ (nth E i).to ∧ (nth E i).to < n) ∧ 0 ≤ (nth E i).w
def GoodD (n : Nat) (d : List Int) : Prop := d.length = n ∧ ∀ x : Int, 0 ≤ x → x < n → 0 ≤ nth d x ∧ nth d x ≤ 1000000000
section
variable {n : Nat} {E : List Edge} (hE : EdgeOk n E)
include hE
omit hE in
theorem sum_goodD {d : List Int} (hg : GoodD n d) : 0 ≤ d.sum := sum_nn fun x hx => by
 obtain ⟨i, hi, rfl⟩ := List.getElem_of_mem hx
 have := (hg.2 i (by omega) (by rw [← hg.1]; omega)).1
 rwa [nth_eq hi] at this
omit hE in
theorem itE_stay {d : List Int} {j : Nat} (he : itE E d (j + 1) = itE E d j) : ∀ i, itE E d (j + i) = itE E d j
 | 0 => rfl
 | i + 1 => by
  have ih := itE_stay he i
  show (roundE E (itE E d (j + i))).1 = _
  rw [ih]; exact he
omit hE in
theorem stepE_true {d : List Int × Bool} {e : Edge} (h : d.2 = true) : (stepE d e).2 = true := by
 unfold stepE; split
 ·rfl
 ·exact h
omit hE in
theorem roundTo_flag {d : List Int} : ∀ {k : Nat}, (roundTo E d k).2 = false → roundTo E d k = (d, false) ∧ ∀ i : Nat, i < k → ¬ (nth d (nth E i).to < 1000000000 ∧ nth d (nth E i).to + (nth E i).w < nth d (nth E i).fr)
 | 0, h => ⟨rfl, fun i hi => by omega⟩
 | k + 1, h => by
  have h1 : (roundTo E d k).2 = false := by
   cases hf : (roundTo E d k).2 with
   | false => rfl
   | true => have := stepE_true (e := nth E k) hf; have h' : (stepE (roundTo E d k) (nth E k)).2 = false := h; rw [this] at h'; cases h'
  obtain ⟨a, b⟩ := roundTo_flag h1
  have h2 : (stepE (roundTo E d k) (nth E k)).2 = false := h
  have h3 : ¬ (nth d (nth E k).to < 1000000000 ∧ nth d (nth E k).to + (nth E k).w < nth d (nth E k).fr) := fun hc => by
   rw [a] at h2
   unfold stepE at h2
   rw [if_pos hc] at h2
   cases h2
  refine ⟨?_, fun i hi => ?_⟩
  ·show stepE (roundTo E d k) (nth E k) = (d, false)
   rw [a]; unfold stepE; rw [if_neg h3]
  ·by_cases hik : i = k
   ·subst hik; exact h3
   ·exact b i (by omega)
end
end Go.Eng
end

section
namespace Go.Eng
open Go
def nS (a : Abs) : Nat := a.states.toNat
def edgesOf (a : Abs) (c : List Int) : List Edge := a.arcs.map fun r => ⟨r.fr, r.to, nth c r.lab⟩
abbrev CostFor (a : Abs) (c : List Int) : Prop := (c.length : Int) = a.labels ∧ ∀ i : Nat, i < c.length → 0 ≤ nth c i ∧ nth c i ≤ 1000000
def initG (a : Abs) : List Int := (List.range (nS a)).map fun (x : Nat) => if (x : Int) ∈ a.goals then 0 else 1000000000
noncomputable def distL (a : Abs) (c : List Int) : List Int := fixE (edgesOf a c) (initG a)
theorem mem_nth {l : List Int} {x : Int} : x ∈ l ↔ ∃ i : Nat, i < l.length ∧ nth l i = x := by
 constructor
 ·intro h
  obtain ⟨i, hi, rfl⟩ := List.getElem_of_mem h
  exact ⟨i, hi, nth_eq hi⟩
 ·rintro ⟨i, hi, rfl⟩
  exact nth_mem (by omega) (by omega)
section
variable {a : Abs} {c : List Int} (ha : AbsOk a) (hc : CostFor a c)
include ha hc
end
def openN (s : List Bool) : Nat := (s.filter fun b => !b).length
theorem openN_set : ∀ {s : List Bool} {i : Nat} (h : i < s.length), s[i] = false → openN (s.set i true) < openN s
 | b :: s, 0, h, hb => by
  simp at hb; subst hb
  simp [openN]
 | b :: s, i + 1, h, hb => by
  have := openN_set (s := s) (i := i) (by simpa using h) (by simpa using hb)
  simp only [openN, List.set_cons_succ, List.filter_cons] at this ⊢
  split <;> simp <;> exact this
theorem Le.uu {b c : Int} (h : b = c) : Le (U b) (U c) := h ▸ .refl _
section
variable {a : Abs} {c : List Int} (ha : AbsOk a) (hc : CostFor a c)
include ha hc
end
end Go.Eng
end

section
namespace Go.Eng
open Go
open Classical in
noncomputable def tightTo (a : Abs) (c : List Int) (x : Int) (i : Nat) : Bool := decide (∃ j : Nat, j < i ∧ (nth a.arcs j).fr = x ∧ nth (distL a c) (nth a.arcs j).to < 1000000000 ∧ nth (distL a c) x = nth (distL a c) (nth a.arcs j).to + nth c (nth a.arcs j).lab)
end Go.Eng
end

section
namespace Go.Proofs.YthjmgcopfipabaaGreat
open Go.Eng
set_option maxRecDepth 10000
set_option maxHeartbeats 1000000
theorem math_bits_Mul64_does (n : Int) (h0 : 0 ≤ n) (h1 : n ≤ 100000) : Does Tryz.prog false 122 [.d (.v (.int .u64 (1))), .d (.v (.int .u64 (n)))] (.t [U 0, U n]) := by
 refine Does.of_body Tryz.func122 rfl rfl (by simp) Tryz.call122 (fun w0 O0 => ?_); refine .g <| .r <| .a ?_; refine .a ?_; refine .z <| .m ?_; refine .x (OpSem.bin rfl rfl rfl (bandLow (by omega) (by omega))) ?_; refine .a ?_; refine .z <| .m ?_; refine .x (OpSem.le (s' := U 0) (OpSem.bin rfl rfl rfl (bshrK (by decide) (by decide))) (Le.uu (by rfl))) ?_; refine .a ?_; refine .z <| .m ?_; refine .x (OpSem.bin rfl rfl rfl (bandLow (by omega) (by omega))) ?_; refine .a ?_; refine .z <| .m ?_; refine .x (OpSem.le (s' := U 0) (OpSem.bin rfl rfl rfl (bshrK (by decide) (by decide))) (Le.uu (by show n / 4294967296 = 0; omega))) ?_; refine .a ?_; refine .z <| .mm ?_; refine .x (OpSem.bin rfl rfl rfl (bmulu (by omega) (by omega))) ?_; refine .a ?_; refine .z <| .mm ?_; refine .x (OpSem.bin rfl rfl rfl (bmulu (by omega) (by omega))) ?_; refine .m ?_; refine .x (OpSem.le (s' := U 0) (OpSem.bin rfl rfl rfl (bshrK (by decide) (by decide))) (Le.uu (by show (1 * n) / 4294967296 = 0; omega))) ?_; refine .x (OpSem.bin rfl rfl rfl (baddu (by omega) (by omega))) ?_; refine .a ?_; refine .z <| .m ?_; refine .x (OpSem.bin rfl rfl rfl (bandLow (by omega) (by omega))) ?_; refine .a ?_; refine .z <| .m ?_; refine .x (OpSem.le (s' := U 0) (OpSem.bin rfl rfl rfl (bshrK (by decide) (by decide))) (Le.uu (by show (0 * n + 0) / 4294967296 = 0; omega))) ?_; refine .a ?_; refine .z <| .mm ?_; refine .m ?_; refine .x (OpSem.bin rfl rfl rfl (bmulu (by omega) (by omega))) ?_; refine .x (OpSem.bin rfl rfl rfl (baddu (by omega) (by omega))) ?_; refine .a ?_; refine .z <| .mm ?_; refine .x (OpSem.bin rfl rfl rfl (bmulu (by omega) (by omega))) ?_; refine .m ?_; refine .x (OpSem.bin rfl rfl rfl (baddu (by omega) (by omega))) ?_; refine .m ?_; refine .x (OpSem.le (s' := U 0) (OpSem.bin rfl rfl rfl (bshrK (by decide) (by decide))) (Le.uu (by show (0 * n + 0 + 1 * 0) / 4294967296 = 0; omega))) ?_; refine .x (OpSem.bin rfl rfl rfl (baddu (by omega) (by omega))) ?_; refine .a ?_; refine .z <| .mm ?_; refine .x (OpSem.bin rfl rfl rfl (bmulu (by omega) (by omega))) ?_; refine .a ?_; exact .sq <| .t <| .ret rfl (.tmp rfl <| .tmp rfl <| .nil) rfl (Le.t (.cons (Le.uu (by omega)) <| .cons (Le.uu (by omega)) <| .nil))
theorem math_bits_Mul_does (n : Int) (h0 : 0 ≤ n) (h1 : n ≤ 100000) : Does Tryz.prog false 93 [.d (.v (.int .u64 (1))), .d (.v (.int .u64 (n)))] (.t [U 0, U n]) := by
 refine Does.of_body Tryz.func93 rfl rfl (by simp) Tryz.call93 (fun w0 O0 => ?_); refine .g <| .r <| .a ?_; refine .a ?_; refine .sq <| .g <| .condF rfl rfl ?_; refine .p <| .z <| .mm ?_; refine .x (OpSem.call0 (math_bits_Mul64_does n h0 h1) rfl rfl rfl rfl (Les.refl _)) ?_; refine .m ?_; refine .x .xt ?_; refine .x .xt ?_; refine .a ?_; refine .a ?_; refine .z <| .mm ?_; refine .a ?_; refine .a ?_; exact .sq <| .t <| .ret rfl (.tmp rfl <| .tmp rfl <| .nil) rfl (.refl _)
theorem R_Has_does (l : List Int) (n : Int) : Does Tryz.prog false 78 [.d (ints l), I (n)] (Bo (decide (n ∈ l))) := by
 refine Does.of_body Tryz.func78 rfl rfl (by simp) Tryz.call78 (fun w0 O0 => ?_); refine .le 0 fun len0 => ?_; refine .g <| .r <| .a ?_; refine .sq <| .g <| .g <| .r <| .a ?_; refine .sq <| .k <| .loop (X := Nat) (fun k => k ≤ l.length ∧ ∀ i : Nat, i < k → nth l i ≠ n) (fun k => [(0, .d (ints l)), (1, I (n)), (5, I (k))]) (fun k => []) (fun k => l.length - k) 0 ⟨by omega, by simp⟩ ?_ ?_
 ·exact .p2 <| .slot rfl (Le.of_eq (by simp)) <| .nil
 ·rintro k ⟨hkl, hinv⟩
  refine .g <| .g <| .r <| .mm ?_; refine .x (.n es22) ?_; refine .x (.b blss) ?_; refine .sq <| .cond rfl (fun c9 => ?_) (fun c9 => ?_)
  ·have hk : k < l.length := by simpa using c9
   refine .p <| .g <| .g <| .k <| .g <| .r <| .mm ?_; refine .x (.i es22) ?_; refine .x (.l1 vs3) ?_; refine .m ?_; refine .x (.b beql) ?_; refine .sq <| .cond rfl (fun c17 => ?_) (fun c17 => ?_)
   ·refine .g <| .r <| .a ?_; exact .sq <| .t <| .k <| .t <| .t <| .k <| .t <| .ret rfl (.tmp rfl <| .nil) rfl (Le.bo (decide_eq_true (mem_nth.2 ⟨k, hk, by simpa using c17⟩)).symm)
   ·have hb : nth l k ≠ n := by simpa using c17
    refine .p <| .n <| .y <| .m ?_; refine .x .ad ?_; refine .a ?_; refine .n <| .again (k + 1) ⟨by omega, all_succ hinv hb⟩ ?_ (by omega); exact .p2 <| .slot rfl (Le.of_eq (by simp)) <| .nil
  ·have hk : k = l.length := by simp at c9; omega
   refine .u <| .u <| .u <| .b <| .z <| .a ?_; exact .sq <| .t <| .ret rfl (.tmp rfl <| .nil) rfl (Le.bo (decide_eq_false (fun h => by obtain ⟨i, hi, he⟩ := mem_nth.1 h; exact hinv i (by omega) he)).symm)
theorem cmp_isNaN_int_does (x : Int) : Does Tryz.prog false 58 [I (x)] (Bo false) := by
 refine Does.of_body Tryz.func58 rfl rfl (by simp) Tryz.call58 (fun w0 O0 => ?_); refine .g <| .r <| .a ?_; refine .z <| .mm ?_; refine .x (.b bneq) ?_; refine .a ?_; exact .sq <| .t <| .ret rfl (.tmp rfl <| .nil) rfl (Le.bo (by simp))
theorem strips_IsSet_does (l : List Int) (n : Int) : Does Tryz.prog false 47 [.d (ints l), I (n)] (Bo (decide (SetP n l))) := by
 refine Does.of_body Tryz.func47 rfl rfl (by simp) Tryz.call47 (fun w0 O0 => ?_); refine .le 0 fun len0 => ?_; refine .g <| .r <| .a ?_; refine .sq <| .g <| .g <| .r <| .m ?_; refine .x (.n es22) ?_; refine .m ?_; refine .sq <| .k <| .loop (X := Nat) (fun k => k ≤ l.length ∧ ∀ i : Nat, i < k → SetOk n l i) (fun k => [(0, .d (ints l)), (1, I (n)), (7, .d (ints l)), (8, I (l.length)), (9, I (k))]) (fun k => []) (fun k => l.length - k) 0 ⟨by omega, by simp⟩ ?_ ?_
 ·exact .p3 <| .sl <| .slot rfl (Le.of_eq (by simp)) <| .nil
 ·rintro k ⟨hkl, hinv⟩
  refine .g <| .r <| .x (.b blss) ?_; refine .sq <| .g <| .cond rfl (fun c10 => ?_) (fun c10 => ?_)
  ·have hk : k < l.length := by simpa using c10
   refine .p <| .g <| .g <| .k <| .g <| .r <| .m ?_; refine .x (.i es22) ?_; refine .x (.l1 vs3) ?_; refine .a ?_; refine .a ?_; refine .z <| .m ?_; refine .x (.b blss) ?_; refine .m ?_; refine .split (n := 16) rfl (fun c16 => ?_) (fun c16 => ?_)
   ·refine .hf c16 ?_; refine .hf c16 ?_; refine .hf c16 ?_; refine .x (OpSem.pickT rfl rfl c16 rfl) ?_; refine .m ?_; refine .hf rfl ?_; refine .hf rfl ?_; refine .hf rfl ?_; refine .gu ?_; refine .gu ?_; refine .gu ?_; refine .gu ?_; refine .gu ?_; refine .gu ?_; refine .gu ?_; refine .hf rfl ?_; refine .x (OpSem.pickT rfl rfl rfl rfl) ?_; refine .sq <| .condT rfl rfl ?_; refine .g <| .r <| .a ?_; exact .sq <| .t <| .k <| .t <| .t <| .k <| .t <| .ret rfl (.tmp rfl <| .nil) rfl (Le.bo (by first | exact (decide_eq_true (by subst hk; exact hinv)).symm | exact (decide_eq_false (fun h => by have h1 := (h k hk).2.2 hkp; simp at c33; omega)).symm | exact (decide_eq_false (fun h => by have := h k hk; simp at c21; omega)).symm | exact (decide_eq_false (fun h => by have := h k hk; simp at c16; omega)).symm))
   ·refine .ht c16 ?_; refine .m ?_; refine .ht c16 ?_; refine .m ?_; refine .ht c16 ?_; refine .x (.b bgeq) ?_; refine .x (OpSem.pickF rfl rfl c16 rfl) ?_; refine .m ?_; refine .split (n := 21) rfl (fun c21 => ?_) (fun c21 => ?_)
    ·refine .hf c21 ?_; refine .hf c21 ?_; refine .hf c21 ?_; refine .gu ?_; refine .gu ?_; refine .gu ?_; refine .gu ?_; refine .gu ?_; refine .gu ?_; refine .gu ?_; refine .hf c21 ?_; refine .x (OpSem.pickT rfl rfl c21 rfl) ?_; refine .sq <| .condT rfl rfl ?_; refine .g <| .r <| .a ?_; exact .sq <| .t <| .k <| .t <| .t <| .k <| .t <| .ret rfl (.tmp rfl <| .nil) rfl (Le.bo (by first | exact (decide_eq_true (by subst hk; exact hinv)).symm | exact (decide_eq_false (fun h => by have h1 := (h k hk).2.2 hkp; simp at c33; omega)).symm | exact (decide_eq_false (fun h => by have := h k hk; simp at c21; omega)).symm | exact (decide_eq_false (fun h => by have := h k hk; simp at c16; omega)).symm))
    ·refine .ht c21 ?_; refine .m ?_; refine .ht c21 ?_; refine .x (.b bgtr) ?_; refine .ht c21 ?_; refine .m ?_; refine .split (n := 24) rfl (fun c24 => ?_) (fun c24 => ?_)
     ·have hkp : 0 < k := by simp at c24; omega
      refine .gt c24 ?_; refine .m ?_; refine .gt c24 ?_; refine .m ?_; refine .gt c24 ?_; refine .m ?_; refine .gt c24 ?_; refine .x .su ?_; refine .gt c24 ?_; refine .x (.i es22) ?_; refine .gt c24 ?_; refine .x (.l1 vs3) ?_; refine .gt c24 ?_; refine .x (.b bleq) ?_; refine .ht c21 ?_; refine .x (OpSem.pickT rfl rfl c24 rfl) ?_; refine .x (OpSem.pickF rfl rfl c21 rfl) ?_; refine .sq <| .cond rfl (fun c33 => ?_) (fun c33 => ?_)
      ·refine .g <| .r <| .a ?_; exact .sq <| .t <| .k <| .t <| .t <| .k <| .t <| .ret rfl (.tmp rfl <| .nil) rfl (Le.bo (by first | exact (decide_eq_true (by subst hk; exact hinv)).symm | exact (decide_eq_false (fun h => by have h1 := (h k hk).2.2 hkp; simp at c33; omega)).symm | exact (decide_eq_false (fun h => by have := h k hk; simp at c21; omega)).symm | exact (decide_eq_false (fun h => by have := h k hk; simp at c16; omega)).symm))
      ·refine .p <| .n <| .y <| .x .ad ?_; refine .m ?_; refine .n ?_
       have hb : SetOk n l k := by first | (simp at c16 c21 c33; exact ⟨by omega, by omega, fun h => by omega⟩) | (simp at c16 c21 c24; exact ⟨by omega, by omega, fun h => by omega⟩)
       refine .again (k + 1) ⟨by omega, all_succ hinv hb⟩ ?_ (by omega); exact .p3 <| .sl <| .slot rfl (Le.of_eq (by simp)) <| .nil
     ·refine .gf c24 ?_; refine .gf c24 ?_; refine .gf c24 ?_; refine .gf c24 ?_; refine .gf c24 ?_; refine .gf c24 ?_; refine .gf c24 ?_; refine .ht c21 ?_; refine .x (OpSem.pickF rfl rfl c24 rfl) ?_; refine .x (OpSem.pickF rfl rfl c21 rfl) ?_; refine .sq <| .condF rfl rfl ?_; refine .p <| .n <| .y <| .x .ad ?_; refine .m ?_; refine .n ?_
      have hb : SetOk n l k := by first | (simp at c16 c21 c33; exact ⟨by omega, by omega, fun h => by omega⟩) | (simp at c16 c21 c24; exact ⟨by omega, by omega, fun h => by omega⟩)
      refine .again (k + 1) ⟨by omega, all_succ hinv hb⟩ ?_ (by omega); exact .p3 <| .sl <| .slot rfl (Le.of_eq (by simp)) <| .nil
  ·have hk : k = l.length := by simp at c10; omega
   refine .u <| .u <| .u <| .b <| .z <| .a ?_; exact .sq <| .t <| .ret rfl (.tmp rfl <| .nil) rfl (Le.bo (by first | exact (decide_eq_true (by subst hk; exact hinv)).symm | exact (decide_eq_false (fun h => by have h1 := (h k hk).2.2 hkp; simp at c33; omega)).symm | exact (decide_eq_false (fun h => by have := h k hk; simp at c21; omega)).symm | exact (decide_eq_false (fun h => by have := h k hk; simp at c16; omega)).symm))
end Go.Proofs.YthjmgcopfipabaaGreat
end

section
namespace Go.Eng
open Go
section
variable {m : Multi} (hv : Valid m)
include hv
end
end Go.Eng
end

section
namespace Go.Eng
open Go
def plusI (a b : Int) : Int := if a = 1000000000 ∨ b = 1000000000 then 1000000000 else min (a + b) 999999999
theorem plusI_1 {a b : Int} (h : a = 1000000000 ∨ b = 1000000000) : 1000000000 = plusI a b := by unfold plusI; rw [if_pos h]
theorem plusI_0 {a b : Int} (h : ¬ (a = 1000000000 ∨ b = 1000000000)) : min (a + b) 999999999 = plusI a b := by unfold plusI; rw [if_neg h]
theorem plusI_in {a b : Int} (ha : 0 ≤ a ∧ a ≤ 1000000000) (hb : 0 ≤ b ∧ b ≤ 1000000000) : 0 ≤ plusI a b ∧ plusI a b ≤ 1000000000 := by
 unfold plusI; split <;> omega
abbrev ValsOk (V : List Int) : Prop := ∀ i : Nat, i < V.length → 0 ≤ nth V i ∧ nth V i ≤ 1000000000 ∧ (nth V i < 1000000000 → nth V i ≤ 200000)
def putB (p : Nat → Bool) (i : Nat) (b : Bool) : Nat → Bool := fun x => if x = i then b else p x
section
variable {V : List Int} (hV : ValsOk V) {C : Nat → Nat → Bool}
include hV
omit hV in
theorem putB_same {p : Nat → Bool} {i : Nat} {b : Bool} : putB p i b i = b := by unfold putB; rw [if_pos rfl]
omit hV in
theorem putB_ne {p : Nat → Bool} {i x : Nat} {b : Bool} (h : x ≠ i) : putB p i b x = p x := by unfold putB; rw [if_neg h]
end
section
variable {V : List Int} (hV : ValsOk V)
include hV
end
abbrev PatsOk (m : Multi) (pats : List (List Int)) : Prop := ∀ i : Nat, i < pats.length → (nth pats i).length ≠ 0 ∧ PatP m.sizes (nth pats i) ∧ prodTo m.sizes (nth pats i) (nth pats i).length ≤ 2000
section
variable {m : Multi} {pats : List (List Int)} (hv : Valid m) (hp : PatsOk m pats)
include hv hp
end
theorem any_mem {l : List Int} {n : Int} : (l.any fun x => decide (n = x)) = decide (n ∈ l) := by
 rw [Bool.eq_iff_iff]
 simp only [List.any_eq_true, decide_eq_true_eq]
 exact ⟨fun ⟨x, hx, e⟩ => e ▸ hx, fun h => ⟨n, h, rfl⟩⟩
theorem caught_p2 (l1 l2 : List D) : Caught [.p l1, .p l2] := fun n hn => by
 cases n with
 | zero => omega
 | succ n => rfl
end Go.Eng
end

section
namespace Go.Eng
open Go
theorem bshl1 {t : TypeId} {yk : IntKind} {n : Int} (h0 : 0 ≤ n) (h1 : n ≤ 62) : binOp .shl t (.int .i64 1) (.int yk n) = pure (.int .i64 ((2 ^ n.toNat : Nat) : Int)) := by
 rw [show binOp .shl t (.int .i64 1) (.int yk n) = Op.shift .shl .i64 1 yk n from rfl, shift_shl_any _ _ _ _ h0]
 have e : min n.toNat IntKind.i64.bits = n.toNat := by simp [IntKind.bits]; omega
 rw [e]
 have hp : 2 ^ n.toNat ≤ 2 ^ 62 := Nat.pow_le_pow_right (by omega) (by omega)
 have hc : (1 : Int) * 2 ^ n.toNat = ((2 ^ n.toNat : Nat) : Int) := by simp
 rw [hc]
 clear hc e
 generalize 2 ^ n.toNat = z at hp ⊢
 rw [wrap_i64 (by omega) (by omega)]
end Go.Eng
end

section
namespace Go.Eng
open Go
def firstF (f : Nat → Int × Int) : Nat → Int × Int
 | 0 => (0, 0)
 | k + 1 => if firstF f k = (0, 0) then f k else firstF f k
theorem firstF_of {f : Nat → Int × Int} : ∀ {n : Nat}, (∀ j, j < n → f j = (0, 0)) → firstF f n = (0, 0)
 | 0, _ => rfl
 | n + 1, h => by simp only [firstF]; rw [if_pos (firstF_of fun j hj => h j (by omega))]; exact h n (by omega)
theorem firstF_stop {f : Nat → Int × Int} {k : Nat} (h : firstF f k ≠ (0, 0)) : ∀ n, firstF f (k + n) = firstF f k
 | 0 => rfl
 | n + 1 => by
  have ih := firstF_stop h n
  show firstF f (k + n + 1) = _
  simp only [firstF]
  rw [if_neg (by rw [ih]; exact h), ih]
theorem firstF_bad {f : Nat → Int × Int} {n k : Nat} (hk : k < n) (h0 : ∀ j, j < k → f j = (0, 0)) (h : f k ≠ (0, 0)) : f k = firstF f n := by
 have h1 : firstF f (k + 1) = f k := by simp only [firstF]; rw [if_pos (firstF_of h0)]
 have := firstF_stop (f := f) (k := k + 1) (by rw [h1]; exact h) (n - (k + 1))
 rw [show k + 1 + (n - (k + 1)) = n by omega] at this
 rw [this, h1]
theorem firstF_all {f : Nat → Int × Int} : ∀ {n : Nat}, firstF f n = (0, 0) → ∀ j, j < n → f j = (0, 0)
 | 0, _, j, hj => by omega
 | n + 1, h, j, hj => by
  simp only [firstF] at h
  split at h
  ·rename_i h1
   by_cases hjn : j = n
   ·subst hjn; exact h
   ·exact firstF_all h1 j (by omega)
  ·rename_i h1; exact absurd h h1
theorem firstF_code {f : Nat → Int × Int} (hf : ∀ j, (f j).1 = 0 → f j = (0, 0)) : ∀ {n : Nat}, (firstF f n).1 = 0 → firstF f n = (0, 0)
 | 0, _ => rfl
 | n + 1, h => by
  simp only [firstF] at h ⊢
  split
  ·rename_i h1; rw [if_pos h1] at h; exact hf n h
  ·rename_i h1; rw [if_neg h1] at h; exact absurd (firstF_code hf h) h1
end Go.Eng
end

section
namespace Go.Eng
open Go
end Go.Eng
end

section
namespace Go.Eng
open Go
theorem setP_sorted {n : Int} {l : List Int} (h : SetP n l) : l.Pairwise (· < ·) := by
 have key : ∀ (d i : Nat), i + d + 1 < l.length → nth l i < nth l (i + d + 1 : Nat) := by
  intro d
  induction d with
  | zero =>
   intro i hi
   have := (h (i + 1) (by omega)).2.2 (by omega)
   have e : ((i + 1 : Nat) : Int) - 1 = (i : Int) := by omega
   rw [e] at this
   exact this
  | succ d ih =>
   intro i hi
   have h1 := ih i (by omega)
   have := (h (i + (d + 1) + 1) (by omega)).2.2 (by omega)
   have e : ((i + (d + 1) + 1 : Nat) : Int) - 1 = ((i + d + 1 : Nat) : Int) := by omega
   rw [e] at this
   exact Int.lt_trans h1 this
 rw [List.pairwise_iff_getElem]
 intro i j hi hj hij
 have := key (j - i - 1) i (by omega)
 have e : i + (j - i - 1) + 1 = j := by omega
 rw [e, nth_eq hi, nth_eq hj] at this
 exact this
theorem setP_mem {n : Int} {l : List Int} (h : SetP n l) {x : Int} (hx : x ∈ l) : 0 ≤ x ∧ x < n := by
 obtain ⟨i, hi, rfl⟩ := List.getElem_of_mem hx
 have := h i hi
 unfold SetOk at this
 rw [nth_eq hi] at this
 exact ⟨this.1, this.2.1⟩
section
variable {m : Multi} (hv : Valid m) {v : Int} (h0 : 0 ≤ v) (h1 : v < m.sizes.length)
include hv h0 h1
end
section
variable {m : Multi} (hv : Valid m) {v : Int} (h0 : 0 ≤ v) (h1 : v < m.sizes.length)
include hv h0 h1
end
end Go.Eng
namespace Go.Eng
open Go
section
variable {m : Multi} (hv : Valid m) {v : Int} (h0 : 0 ≤ v) (h1 : v < m.sizes.length)
include hv h0 h1
end
end Go.Eng
namespace Go.Eng
open Go
section
variable {m : Multi} (hv : Valid m) {f : Int} (hf : 0 ≤ f)
include hv hf
end
section
variable {m : Multi} (hv : Valid m) {f : Int} (hf : 0 ≤ f)
include hv hf
end
end Go.Eng
end

section
namespace Go.Eng
open Go
section
variable {α : Type} [DecidableEq α] [Inhabited α]
def ddTo (l : List α) : Nat → List α
 | 0 => []
 | k + 1 => if 0 < k ∧ nth l k = nth l (k - 1 : Int) then ddTo l k else ddTo l k ++ [nth l k]
def dd (l : List α) : List α := ddTo l l.length
def dmTo (l : List α) (k0 : Nat) : Nat → List α
 | 0 => l
 | j + 1 => if nth l (k0 + j + 1 : Nat) = nth l (k0 + j : Nat) then dmTo l k0 j else (dmTo l k0 j).set (ddTo l (k0 + j + 1)).length (nth l (k0 + j + 1 : Nat))
theorem ddTo_len {l : List α} : ∀ {k : Nat}, (ddTo l k).length ≤ k
 | 0 => by simp [ddTo]
 | k + 1 => by
  have := ddTo_len (l := l) (k := k)
  simp only [ddTo]; split
  ·omega
  ·simp; omega
theorem ddTo_take {l : List α} : ∀ {k : Nat}, k ≤ l.length → (∀ i : Nat, 0 < i → i < k → nth l i ≠ nth l (i - 1 : Int)) → ddTo l k = l.take k
 | 0, _, _ => by simp [ddTo]
 | k + 1, hk, h => by
  simp only [ddTo]
  rw [if_neg (fun hh => h k hh.1 (by omega) hh.2), ddTo_take (by omega) fun i h0 hi => h i h0 (by omega), nth_eq (by omega), List.take_add_one, List.getElem?_eq_getElem (by omega)]
  rfl
theorem dd_all {l : List α} (h : ∀ i : Nat, 0 < i → i < l.length → nth l i ≠ nth l (i - 1 : Int)) : dd l = l := by
 unfold dd; rw [ddTo_take (Nat.le_refl _) h, List.take_length]
theorem dd_one {l : List α} (h : l.length < 2) : dd l = l := dd_all fun i h0 hi => by omega
theorem dd_ne {l : List α} (h : l ≠ []) : dd l ≠ [] := by
 have key : ∀ k, 0 < k → ddTo l k ≠ [] := by
  intro k hk
  induction k with
  | zero => omega
  | succ k ih =>
   simp only [ddTo]
   split
   ·rename_i hh; exact ih hh.1
   ·simp
 have : 0 < l.length := List.length_pos_iff.2 h
 exact key _ this
theorem dmTo_len {l : List α} {k0 : Nat} : ∀ {j : Nat}, (dmTo l k0 j).length = l.length
 | 0 => rfl
 | j + 1 => by simp only [dmTo]; split; exact dmTo_len; rw [List.length_set]; exact dmTo_len
section
variable {l : List α} {k0 : Nat} (h0 : 0 < k0) (hd : nth l k0 = nth l (k0 - 1 : Int))
include h0 hd
theorem dk_len : ∀ {j : Nat}, (ddTo l (k0 + j + 1)).length ≤ k0 + j
 | 0 => by
  have := ddTo_len (l := l) (k := k0)
  simp only [Nat.add_zero, ddTo]
  rw [if_pos ⟨h0, hd⟩]; exact this
 | j + 1 => by
  have := dk_len (j := j)
  have e : k0 + (j + 1) + 1 = (k0 + j + 1) + 1 := by omega
  have e2 : ddTo l ((k0 + j + 1) + 1) = if 0 < k0 + j + 1 ∧ nth l (k0 + j + 1 : Nat) = nth l ((k0 + j + 1 : Nat) - 1 : Int) then ddTo l (k0 + j + 1) else ddTo l (k0 + j + 1) ++ [nth l (k0 + j + 1 : Nat)] := rfl
  rw [e, e2]; split
  ·omega
  ·simp; omega
theorem dmTo_at {i : Nat} : ∀ {j : Nat}, k0 + j ≤ i → nth (dmTo l k0 j) i = nth l i
 | 0, _ => rfl
 | j + 1, hi => by
  have ih := dmTo_at (i := i) (j := j) (by omega)
  have hl := dk_len h0 hd (j := j)
  simp only [dmTo]; split
  ·exact ih
  ·have e : nth ((dmTo l k0 j).set (ddTo l (k0 + j + 1)).length (nth l (k0 + j + 1 : Nat))) i = nth (dmTo l k0 j) i := by
    unfold nth
    simp only [Int.toNat_natCast, List.getD_eq_getElem?_getD]
    rw [List.getElem?_set_ne (by omega)]
   rw [e]; exact ih
theorem ddTo_step {j : Nat} : ddTo l (k0 + (j + 1) + 1) = if nth l (k0 + j + 1 : Nat) = nth l (k0 + j : Nat) then ddTo l (k0 + j + 1) else ddTo l (k0 + j + 1) ++ [nth l (k0 + j + 1 : Nat)] := by
 have e : k0 + (j + 1) + 1 = (k0 + j + 1) + 1 := by omega
 have e2 : ((k0 + j + 1 : Nat) : Int) - 1 = ((k0 + j : Nat) : Int) := by omega
 have e3 : ddTo l ((k0 + j + 1) + 1) = if 0 < k0 + j + 1 ∧ nth l (k0 + j + 1 : Nat) = nth l ((k0 + j + 1 : Nat) - 1 : Int) then ddTo l (k0 + j + 1) else ddTo l (k0 + j + 1) ++ [nth l (k0 + j + 1 : Nat)] := rfl
 rw [e, e3, e2]
 by_cases h : nth l (k0 + j + 1 : Nat) = nth l (k0 + j : Nat)
 ·rw [if_pos ⟨by omega, h⟩, if_pos h]
 ·rw [if_neg (fun hh => h hh.2), if_neg h]
theorem dmTo_take (hk : k0 < l.length) (hu : ∀ i : Nat, 0 < i → i < k0 → nth l i ≠ nth l (i - 1 : Int)) : ∀ {j : Nat}, k0 + j < l.length → (dmTo l k0 j).take (ddTo l (k0 + j + 1)).length = ddTo l (k0 + j + 1)
 | 0, _ => by
  have e : ddTo l (k0 + 0 + 1) = l.take k0 := by
   simp only [Nat.add_zero, ddTo]
   rw [if_pos ⟨h0, hd⟩, ddTo_take (by omega) hu]
  rw [e]
  simp only [dmTo, List.length_take]
  rw [Nat.min_eq_left (by omega)]
 | j + 1, hj => by
  have ih := dmTo_take hk hu (j := j) (by omega)
  have hl := dk_len h0 hd (j := j)
  have hm := dmTo_len (l := l) (k0 := k0) (j := j)
  rw [ddTo_step h0 hd]
  simp only [dmTo]
  split
  ·exact ih
  ·rw [List.length_append, List.length_singleton, List.take_add_one, List.take_set_of_le (Nat.le_refl _), ih, List.getElem?_set_self (by omega)]
   rfl
end
end
end Go.Eng
end

section
namespace Go.Eng
open Go.Shelf Go.Lib Go.Proofs
open Go.Sort (SWO ahead grow putCells putRow mapBlock onCells HoldsK flatK putRowK size_flatK get_flatK)
section
variable {P : Program} {N : Nat} {w0 : World} {O0 : Nat → Nat} {ops : Array Oper} {Q : Post} {e : Env} {M : Mem} {rest : List Oper} {o : Oper}
end
end Go.Eng
end

section
namespace Go.Eng
open Go
open Go.RowKit (Below)
section
variable {P : Program} {N : Nat} {w0 : World} {O0 : Nat → Nat} {Q : Post} {e : Env} {M : Mem}
end
theorem pw_lt_len {n : Int} : ∀ {l : List Int} {x : Int}, l.Pairwise (· < ·) → (∀ y, y ∈ l → x ≤ y ∧ y < n) → (l.length : Int) ≤ max 0 (n - x)
  | [], x, _, _ => by simp; omega
  | y :: l, x, hp, hm => by
    rw [List.pairwise_cons] at hp
    have h1 := hm y (by simp)
    have := pw_lt_len (n := n) (x := y + 1) hp.2 (fun z hz => ⟨by have := hp.1 z hz; omega, (hm z (by simp [hz])).2⟩)
    simp only [List.length_cons]
    omega
theorem ddTo_last {α : Type} [DecidableEq α] [Inhabited α] {l : List α} : ∀ {k : Nat}, 0 < k → ∃ r, ddTo l k = r ++ [nth l (k - 1 : Int)]
  | 0, h => by omega
  | k + 1, _ => by
    have e : ((k + 1 : Nat) : Int) - 1 = k := by omega
    rw [e]
    simp only [ddTo]
    split
    · rename_i h
      obtain ⟨r, hr⟩ := ddTo_last (l := l) h.1
      exact ⟨r, by rw [hr, h.2]⟩
    · exact ⟨_, rfl⟩
theorem ddTo_mem {α : Type} [DecidableEq α] [Inhabited α] {l : List α} {x : α} : ∀ {k : Nat}, k ≤ l.length → (x ∈ ddTo l k ↔ x ∈ l.take k)
  | 0, _ => by simp [ddTo]
  | k + 1, hk => by
    have ih := ddTo_mem (x := x) (l := l) (k := k) (by omega)
    have hs : l.take (k + 1) = l.take k ++ [nth l k] := by rw [List.take_add_one, List.getElem?_eq_getElem (by omega), nth_eq (by omega)]; rfl
    rw [hs]
    simp only [ddTo]
    split
    · rename_i h
      rw [ih, List.mem_append, List.mem_singleton]
      refine ⟨.inl, fun hx => hx.elim id fun hx => ?_⟩
      obtain ⟨r, hr⟩ := ddTo_last (l := l) h.1
      rw [← ih, hr, hx, h.2]; simp
    · rw [List.mem_append, List.mem_append, ih]
theorem dd_mem {α : Type} [DecidableEq α] [Inhabited α] {l : List α} {x : α} : x ∈ dd l ↔ x ∈ l := by
  unfold dd; rw [ddTo_mem (Nat.le_refl _), List.take_length]
theorem dd_len {α : Type} [DecidableEq α] [Inhabited α] {l : List α} : (dd l).length ≤ l.length := ddTo_len
section
variable {P : Program} {B : Nat} {o : Oper} {e : Env} {M : Mem}
end
section
variable {P : Program} {B : Nat} {o : Oper} {e : Env} {M : Mem}
end
end Go.Eng
end

section
namespace Go.Eng
open Go
theorem tk_s {α : Type} [Inhabited α] {l : List α} {k : Nat} (hk : k < l.length) : l.take (k + 1) = l.take k ++ [nth l k] := by
  rw [List.take_add_one, List.getElem?_eq_getElem hk, nth_eq hk]; rfl
theorem fm_s {α β : Type} [Inhabited α] {l : List α} {f : α → List β} {k : Nat} (hk : k < l.length) : (l.take (k + 1)).flatMap f = (l.take k).flatMap f ++ f (nth l k) := by
  rw [tk_s hk, List.flatMap_append]; simp
section
variable {a b : Abs} (ha : AbsOk a) (hb : AbsOk b)
include ha hb
end
structure PrdP (a b : Abs) : Prop where
  oa : AbsOk a
  ob : AbsOk b
  lab : a.labels = b.labels
  st : a.states * b.states ≤ 60
section
variable {a b : Abs} (h : PrdP a b)
include h
end
section
variable {a b : Abs} {c : List Int} (h : PrdP a b)
include h
end
section
variable {m : Multi} (hv : Valid m)
include hv
end
section
variable {m : Multi} (hval : validate m = (0, 0)) (hr : ranks m.sizes ≤ 60)
include hval hr
end
end Go.Eng
end

section
namespace Go.Eng
open Go
section
variable {α : Type} [DecidableEq α] [Inhabited α]
end
end Go.Eng
end

section
namespace Go.Eng
open Go.Shelf Go.Lib Go.Proofs
open Go.Sort (Holds ahead grow putCells putRow mapBlock onCells)
def sortI (l : List Int) : List Int := l.mergeSort fun x y => decide (x ≤ y)
theorem sortI_len {l : List Int} : (sortI l).length = l.length := List.length_mergeSort l
theorem sortI_mem {l : List Int} {x : Int} : x ∈ sortI l ↔ x ∈ l := (List.mergeSort_perm l _).mem_iff
theorem sortI_sorted {l : List Int} : (sortI l).Pairwise (· ≤ ·) := by
 have := List.pairwise_mergeSort (le := fun x y : Int => decide (x ≤ y)) (fun a b c h1 h2 => by simp at *; omega) (fun a b => by simp; omega) l
 exact this.imp fun h => by simpa using h
theorem sortInts_W {P : Program} {ρ : Ren} (L : SlLaysM.n5 P ρ) (T : Nat) (can : ∀ xs w, (callFunc (ρ.f 5) xs).run P w = .ok (.enter (ρ.f 5) xs) w) (l : List Int) (hl : l.length < 4611686018427387904) :
  DoesWS P (ρ.f 5) (fun v => [v]) (.tuple #[]) 1 T (l.map fun x => [D.v (.int .i64 x)]) ((sortI l).map fun x => [D.v (.int .i64 x)]) := by
 refine ⟨can, fun w v hv => ?_⟩
 rcases hv with ⟨rfl, hr⟩ | ⟨b, cap, xs, rfl, _, hb, hlc, hcm, hsz, hw, hc⟩
 ·have hl0 : l = [] := by simpa using hr
  subst hl0
  refine (AnyM.slices_Sort_int_none L none 0 w).mono ?_
  rintro e w' ⟨rfl, rfl⟩
  exact ⟨rfl, ⟨rfl, rfl, rfl, Nat.le_refl _, fun _ _ _ => rfl⟩, .inl ⟨rfl, by simp [sortI]⟩⟩
 ·have hcv : ∀ (i : Nat) (x : Int), l[i]? = some x → xs[i]? = some (.int .i64 x) := fun i x hi => by
   obtain ⟨y, hy, he, _⟩ := hc i [D.v (.int .i64 x)] 0 (.v (.int .i64 x)) (by simp [hi]) rfl
   cases he; simpa using hy
  have hbs := (Array.getElem?_eq_some_iff.1 hb).1
  have hH : Holds (Value.int .i64) w b 0 l.toArray := by
   intro j hj
   have hj' : j < l.length := by simpa using hj
   have h2 := hcv j l[j] (List.getElem?_eq_getElem hj')
   refine ⟨?_, by simp [World.frozen?, hb]⟩
   simp only [World.cell?, hb, Nat.zero_add]
   simpa [hj'] using h2
  have hcon := AnyM.slices_Sort_int L b 0 cap l w hH hbs hl
  have e1 : l.length = (l.map fun x => [D.v (.int .i64 x)]).length := by simp
  rw [e1] at hcon
  refine hcon.mono ?_
  rintro e w' ⟨rfl, n, os, rfl⟩
  have hat : ∀ b', b' < w.heap.size → (grow (putRow (Value.int .i64) (Sort.ahead w n) b 0 (sortI l).toArray) os).heap[b']? = if b = b' then (w.heap[b']?).map (onCells (putCells (Value.int .i64) 0 (sortI l).toArray)) else w.heap[b']? := fun b' hb' => by
   unfold grow putRow mapBlock
   show ((w.heap.modify b _) ++ os)[b']? = _
   rw [Array.getElem?_append_left (by simpa using hb'), Array.getElem?_modify]
  have hlc' : l.length ≤ cap := by simpa using hlc
  refine ⟨rfl, ⟨rfl, rfl, rfl, ?_, fun b' hb' hne => ?_⟩, .inr ⟨b, cap, putCells (Value.int .i64) 0 (sortI l).toArray xs, by simp [sortI_len], Nat.zero_le _, ?_, by simpa [sortI_len] using hlc', hcm, ?_, ?_, ?_⟩⟩
  ·show w.heap.size ≤ (grow (putRow (Value.int .i64) (Sort.ahead w n) b 0 (sortI l).toArray) os).heap.size
   unfold grow putRow mapBlock
   simp [ahead]
  ·refine (hat b' hb').trans (if_neg fun e => hne (by rw [e]; rfl))
  ·rw [show (grow (putRow (Value.int .i64) (Sort.ahead w n) b 0 (l.mergeSort fun x y => decide (x ≤ y)).toArray) os).heap[b]? = _ from hat b hbs, if_pos rfl, hb]
   rfl
  ·simp [putCells, hsz]
  ·intro r hr
   obtain ⟨x, _, rfl⟩ := List.mem_map.1 hr
   rfl
  ·intro i r j d hi hj
   rw [List.getElem?_map, Option.map_eq_some_iff] at hi
   obtain ⟨x, hx, rfl⟩ := hi
   have hj0 : j = 0 := by have := (List.getElem?_eq_some_iff.1 hj).1; simp at this; omega
   subst hj0
   simp at hj
   subst hj
   refine ⟨.int .i64 x, ?_, rfl, rfl⟩
   have hil : i < l.length := by have := (List.getElem?_eq_some_iff.1 hx).1; rwa [sortI_len] at this
   have hxs : i < xs.size := by rw [hsz]; omega
   unfold putCells
   simp only [Nat.mul_one, Nat.add_zero]
   rw [Array.getElem?_mapIdx, Array.getElem?_eq_getElem hxs, Option.map_some, if_pos ⟨Nat.zero_le _, by simpa [sortI_len] using hil⟩, Nat.sub_zero]
   simp [hx]
theorem plain_ints (l : List Int) : plainB (l.map fun n => [D.v (.int .i64 n)]) = true := by simp [plainB]
theorem ints_dm {L : List Int} {i y : Nat} {v : Int} (ha : nth L i = v) (hi : i < L.length) (hy : y = i) : (L.map fun n => [D.v (.int .i64 n)])[y]? = some [D.v (.int .i64 v)] := by
 subst hy; subst ha
 rw [List.getElem?_map, List.getElem?_eq_getElem hi, nth_eq hi]; rfl
theorem dmTo_sI {l : List Int} {k j : Nat} (h : nth l (k + j + 1 : Nat) ≠ nth l (k + j : Nat)) : dmTo l k (j + 1) = (dmTo l k j).set (ddTo l (k + j + 1)).length (nth l (k + j + 1 : Nat)) := by
 simp only [dmTo]; rw [if_neg h]
theorem dmTo_eI {l : List Int} {k j : Nat} (h : nth l (k + j + 1 : Nat) = nth l (k + j : Nat)) : dmTo l k (j + 1) = dmTo l k j := by
 simp only [dmTo]; rw [if_pos h]
theorem cut_ddI {l : List Int} {k j : Nat} (h0 : 0 < k) (hd : nth l k = nth l (k - 1 : Int)) (hk : k < l.length) (hu : ∀ i : Nat, 0 < i → i < k → nth l i ≠ nth l (i - 1 : Int)) (hj : k + j + 1 = l.length) {R S : List (List D)} :
  (((dmTo l k j).map fun n => [D.v (.int .i64 n)]).take ((ddTo l (k + j + 1)).length : Int).toNat ++ R ++ S).take ((ddTo l (k + j + 1)).length : Int).toNat = (dd l).map fun n => [D.v (.int .i64 n)] := by
 have h1 := dk_len h0 hd (j := j)
 have h2 := dmTo_len (l := l) (k0 := k) (j := j)
 have h3 := dmTo_take h0 hd hk hu (j := j) (by omega)
 rw [Int.toNat_natCast, List.append_assoc, List.take_append_of_le_length (by simp; omega), List.take_take, Nat.min_self, ← List.map_take, h3, hj]
 rfl
end Go.Eng
end

section
namespace Go.Eng
open Go
theorem dd_strictI {l : List Int} (h : l.Pairwise (· ≤ ·)) : (dd l).Pairwise (· < ·) := by
 have hp : ∀ i j : Nat, i < j → j < l.length → nth l i ≤ nth l j := fun i j hij hj => by
  rw [nth_eq hj, nth_eq (by omega)]
  exact List.pairwise_iff_getElem.1 h i j (by omega) hj hij
 have key : ∀ k : Nat, k ≤ l.length → (ddTo l k).Pairwise (· < ·) := by
  intro k
  induction k with
  | zero => intro _; simp [ddTo]
  | succ k ih =>
   intro hk
   have ih := ih (by omega)
   simp only [ddTo]
   split
   ·exact ih
   ·rename_i hne
    rw [List.pairwise_append]
    refine ⟨ih, by simp, fun y hy z hz => ?_⟩
    rw [List.mem_singleton] at hz
    subst hz
    rw [ddTo_mem (by omega)] at hy
    obtain ⟨i, hi, rfl⟩ := List.getElem_of_mem hy
    rw [List.length_take] at hi
    have e : (l.take k)[i] = nth l i := by rw [List.getElem_take, nth_eq (by omega)]
    rw [e]
    have h0 : 0 < k := by omega
    have hn : nth l k ≠ nth l (k - 1 : Int) := fun he => hne ⟨h0, he⟩
    have e1 : ((k : Int) - 1) = ((k - 1 : Nat) : Int) := by omega
    rw [e1] at hn
    have l1 := hp (k - 1) k (by omega) (by omega)
    by_cases hik : i = k - 1
    ·rw [hik]; omega
    ·have l2 := hp i (k - 1) (by omega) (by omega); omega
 exact key _ (Nat.le_refl _)
end Go.Eng
end

section
namespace Go.Eng
open Go
end Go.Eng
end
