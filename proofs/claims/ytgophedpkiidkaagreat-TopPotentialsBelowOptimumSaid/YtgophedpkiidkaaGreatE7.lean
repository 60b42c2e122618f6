/- Part 7. -/
import Derived.Test.YtgophedpkiidkaaGreatE6
import Derived.Shelf.SlGeneric
import Derived.Ground.SlsfProg
import Derived.WalkKit
import Derived.Deep.Cut
import Derived.Deep.Draws
import Derived.Sort.Grow
import Derived.Deep.QuietTactic
set_option linter.unusedSimpArgs false
set_option linter.unnecessarySimpa false
set_option linter.unusedVariables false
set_option linter.unusedSectionVars false
section
namespace Go.Eng
open Go.Shelf Go.Lib Go.Proofs
open Go.Sort (SWO ahead grow putCells putRow mapBlock onCells Holds PermIn SortedIn)
def fctT (w : Nat) : Nat → List Int
 | 0 => []
 | k + 1 => if w.testBit k then fctT w k ++ [(k : Int)] else fctT w k
def fctW (w : Nat) : List Int := fctT w 32
theorem fctT_len {w : Nat} : ∀ {k : Nat}, (fctT w k).length ≤ k
 | 0 => by simp [fctT]
 | k + 1 => by
  have := fctT_len (w := w) (k := k)
  unfold fctT
  split
  ·simp; omega
  ·omega
theorem wbit_1 {w k : Nat} : ((w / 2 ^ k : Nat) &&& 1 = 1) ↔ w.testBit k = true := by
 rw [Nat.testBit_eq_decide_div_mod_eq, decide_eq_true_eq, Nat.and_one_is_mod]
theorem bshrN {t : TypeId} {w i : Nat} (hi : i ≤ 32) : binOp .shr t (.int .u32 (w : Int)) (.int .i64 (i : Int)) = pure (.int .u32 ((w / 2 ^ i : Nat) : Int)) := by
 rw [bshrK (by omega) (by show (i : Int) ≤ 32; omega)]
 simp
theorem band32 {t : TypeId} {a b : Nat} (ha : a < 2 ^ 32) (hb : b < 2 ^ 32) : binOp .and t (.int .u32 (a : Int)) (.int .u32 (b : Int)) = pure (.int .u32 ((a &&& b : Nat) : Int)) := by
 have h : a &&& b < 2 ^ 32 := Nat.lt_of_le_of_lt Nat.and_le_left ha
 rw [binOp_and, intBits_and]
 congr 2
 unfold bits
 have hb : (BitVec.ofInt 32 (a : Int) &&& BitVec.ofInt 32 (b : Int)).toNat = a &&& b := by
  have e1 : BitVec.ofInt 32 (a : Int) = BitVec.ofNat 32 a := by simp
  have e2 : BitVec.ofInt 32 (b : Int) = BitVec.ofNat 32 b := by simp
  rw [e1, e2, BitVec.toNat_and, BitVec.toNat_ofNat, BitVec.toNat_ofNat, Nat.mod_eq_of_lt (by omega), Nat.mod_eq_of_lt (by omega)]
 have hb' : ((BitVec.ofInt IntKind.u32.bits (a : Int) &&& BitVec.ofInt IntKind.u32.bits (b : Int)).toNat : Int) = ((a &&& b : Nat) : Int) := congrArg Int.ofNat hb
 generalize a &&& b = z at h hb'
 exact (congrArg IntKind.u32.wrap hb').trans (wrap_u32 (by omega) (by omega))
theorem beqU1 {t : TypeId} {m : Nat} : binOp .eql t (.int .u32 (m : Int)) (.int .u32 1) = pure (.bool (decide (m = 1))) := by
 rw [binOp_eql]
 have e : decide (m = 1) = decide ((m : Int) = 1) := decide_eq_decide.2 (by omega)
 rw [e]; congr 2
def cmpL : List Int → List Int → Int
 | [], [] => 0
 | [], _ :: _ => -1
 | _ :: _, [] => 1
 | x :: a, y :: b => if cmpI x y ≠ 0 then cmpI x y else cmpL a b
theorem cmpI_0 {x y : Int} : cmpI x y = 0 ↔ x = y := by
 unfold cmpI
 split
 ·simp; omega
 ·split
  ·simp; omega
  ·simp; omega
theorem cmpL_lt : ∀ {a b : List Int}, cmpL a b < 0 ↔ a < b
 | [], [] => by simp [cmpL]
 | [], _ :: _ => by simp [cmpL]
 | _ :: _, [] => by simp [cmpL]
 | x :: a, y :: b => by
  rw [cmpL, List.cons_lt_cons_iff]
  by_cases h : cmpI x y = 0
  ·have e := cmpI_0.1 h
   subst e
   rw [if_neg (by simpa using h), cmpL_lt (a := a) (b := b)]
   constructor
   ·exact fun h => .inr ⟨rfl, h⟩
   ·rintro (h | h)
    ·omega
    ·exact h.2
  ·rw [if_pos h]
   have hne : x ≠ y := fun e => h (cmpI_0.2 e)
   unfold cmpI
   split
   ·rename_i hxy
    exact ⟨fun _ => .inl hxy, fun _ => by omega⟩
   ·split
    ·rename_i h1 h2
     refine ⟨fun h => by omega, ?_⟩
     rintro (h | h)
     ·omega
     ·exact absurd h.1 hne
    ·rename_i h1 h2
     exact absurd (by omega : x = y) hne
theorem cmpL_drop {a b : List Int} : ∀ {k : Nat}, k ≤ a.length → k ≤ b.length → (∀ i : Nat, i < k → nth a i = nth b i) → cmpL a b = cmpL (a.drop k) (b.drop k) := by
 intro k
 induction k generalizing a b with
 | zero => intro _ _ _; simp
 | succ k ih =>
  intro h1 h2 h
  cases a with
  | nil => simp at h1
  | cons x a =>
   cases b with
   | nil => simp at h2
   | cons y b =>
    have h0 : x = y := by simpa [nth] using h 0 (by omega)
    rw [cmpL, if_neg (by simp [cmpI_0.2 h0]), List.drop_succ_cons, List.drop_succ_cons]
    exact ih (by simpa using h1) (by simpa using h2) fun i hi => by
     have := h (i + 1) (by omega)
     simpa [nth] using this
theorem drop_nth {l : List Int} {k : Nat} (h : k < l.length) : l.drop k = nth l k :: l.drop (k + 1) := by
 rw [nth_eq h, List.drop_eq_getElem_cons h]
theorem fct_t {w k : Nat} (h : w.testBit k = true) : fctT w (k + 1) = fctT w k ++ [(k : Int)] := by rw [fctT, if_pos h]
theorem fct_f {w k : Nat} (h : ¬ w.testBit k = true) : fctT w (k + 1) = fctT w k := by rw [fctT, if_neg h]
theorem cmpL_1 {a b : List Int} {k : Nat} (hk : k < a.length) (hb : b.length ≤ k) (h : ∀ i : Nat, i < k → nth a i = nth b i) (hkb : k ≤ b.length) : 1 = cmpL a b := by
 rw [cmpL_drop (k := k) (by omega) hkb h, drop_nth hk, List.drop_eq_nil_of_le hb]; rfl
theorem cmpL_2 {a b : List Int} {k : Nat} (hk : k < a.length) (hb : k < b.length) (h : ∀ i : Nat, i < k → nth a i = nth b i) (hc : cmpI (nth a k) (nth b k) ≠ 0) : cmpI (nth a k) (nth b k) = cmpL a b := by
 rw [cmpL_drop (k := k) (by omega) (by omega) h, drop_nth hk, drop_nth hb, cmpL, if_pos hc]
theorem cmpL_3 {a b : List Int} (hb : a.length < b.length) (h : ∀ i : Nat, i < a.length → nth a i = nth b i) : -1 = cmpL a b := by
 rw [cmpL_drop (k := a.length) (by omega) (by omega) h, drop_nth hb, List.drop_eq_nil_of_le (Nat.le_refl _)]; rfl
theorem cmpL_4 {a b : List Int} (hb : b.length = a.length) (h : ∀ i : Nat, i < a.length → nth a i = nth b i) : 0 = cmpL a b := by
 rw [cmpL_drop (k := a.length) (by omega) (by omega) h, List.drop_eq_nil_of_le (Nat.le_refl _), List.drop_eq_nil_of_le (by omega)]; rfl
theorem Below.grown {w w' : World} (h : Below w.heap.size w w') : ∃ q os, w' = grow (w.drewN q) os := by
 refine ⟨w'.drawn - w.drawn, w'.heap.extract w.heap.size w'.heap.size, ?_⟩
 have hh : w'.heap = w.heap ++ w'.heap.extract w.heap.size w'.heap.size := by
  apply Array.ext_getElem?
  intro i
  by_cases hi : i < w.heap.size
  ·rw [Array.getElem?_append_left hi]; exact h.block i hi
  ·rw [Array.getElem?_append_right (by omega), Array.getElem?_extract]
   by_cases h2 : i < w'.heap.size
   ·rw [if_pos (by simp; omega)]; congr 1; omega
   ·rw [if_neg (by simp; omega), Array.getElem?_eq_none (by omega)]
 have h1 := h.os; have h2 := h.tape; have h3 := h.output; have h4 := h.drawn
 have h5 : w'.drawn = w.drawn + (w'.drawn - w.drawn) := by omega
 generalize w'.drawn - w.drawn = q at h5
 generalize w'.heap.extract w.heap.size w'.heap.size = os at hh
 cases w'
 simp only at h1 h2 h3 h5 hh
 subst h1 h2 h3 h5 hh
 rfl
abbrev encW (x : Nat) : Value := .int .u32 ((x % 2 ^ 32 : Nat) : Int)
def cfW (x y : Nat) : Int := cmpL (fctW (x % 2 ^ 32)) (fctW (y % 2 ^ 32))
theorem ltW (x y : Nat) : ltOf cfW x y = decide (fctW (x % 2 ^ 32) < fctW (y % 2 ^ 32)) := by
 unfold ltOf cfW
 exact decide_eq_decide.2 cmpL_lt
theorem ltW_swo : SWO (ltOf cfW) := {
 irrefl := fun x => by rw [ltW]; simp
 trans := fun x y z h1 h2 => by rw [ltW, decide_eq_true_eq] at *; exact List.lt_trans h1 h2
 ntrans := fun x y z h1 h2 => by rw [ltW, decide_eq_false_iff_not] at *; exact List.not_lt.2 (List.le_trans (List.not_lt.1 h2) (List.not_lt.1 h1)) }
noncomputable def sortWd (l : List Nat) : List Nat := (Go.Sort.pdq (ltOf cfW) l.toArray 0 l.toArray.size (Lib.bitLen l.toArray.size) true true).toList
theorem sortWd_perm (l : List Nat) : (sortWd l).Perm l ∧ (sortWd l).length = l.length := by
 obtain ⟨⟨h1, _, h3⟩, h4⟩ := Go.Sort.pdq_sorts (ltOf cfW) ltW_swo l.toArray 0 l.toArray.size (Lib.bitLen l.toArray.size) true true (Nat.zero_le _) (Nat.le_refl _) (Or.inl rfl)
 unfold sortWd
 obtain ⟨d', hd'⟩ : ∃ d', Go.Sort.pdq (ltOf cfW) l.toArray 0 l.toArray.size (Lib.bitLen l.toArray.size) true true = d' := ⟨_, rfl⟩
 rw [hd'] at h1 h3 h4 ⊢
 have hl : d'.toList.length = l.length := by rw [Array.length_toList, h1]; simp
 refine ⟨?_, hl⟩
 have e1 : d'.extract 0 l.toArray.size = d' := by rw [← h1]; simp
 have e2 : (l.toArray.extract 0 l.toArray.size).toList = l := by simp
 rw [e1, e2] at h3
 exact h3
theorem sortWd_W {P : Program} {ρ : Ren} (L : SlLaysF.n6 P ρ) (T g : Nat) (eg : ∀ args w, (callFunc g args).run P w = .ok (.enter g args) w) (hcmp : ∀ (W : World) (x y : Nat), Calls P g #[encW x, encW y] W fun e w' => e = .returned (.int .i64 (cfW x y)) ∧ ∃ q os', w' = grow (W.drewN q) os')
  (can : ∀ xs w, (callFunc (ρ.f 6) xs).run P w = .ok (.enter (ρ.f 6) xs) w) (l : List Nat) (hl : l.length < 4611686018427387904) (hne : l ≠ []) (h32 : ∀ x, x ∈ l → x < 2 ^ 32) :
  DoesWS P (ρ.f 6) (fun v => [v, .func (.func g) #[] #[]]) (.tuple #[]) 1 T (l.map u32C) ((sortWd l).map u32C) := by
 obtain ⟨hp, hsl⟩ := sortWd_perm l
 refine ⟨can, fun w v hv => ?_⟩
 rcases hv with ⟨rfl, hr⟩ | ⟨b, cap, xs, rfl, _, hb, hlc, hcm, hsz, hw, hc⟩
 ·exact absurd (by simpa using hr) hne
 ·have hcv : ∀ (i : Nat) (x : Nat), l[i]? = some x → xs[i]? = some (encW x) := fun i x hi => by
   obtain ⟨y, hy, he, _⟩ := hc i [D.v (.int .u32 (x : Int))] 0 (.v (.int .u32 (x : Int))) (by simp [hi]) rfl
   have hx := h32 x (List.mem_of_getElem? hi)
   cases he
   have : encW x = .int .u32 (x : Int) := by unfold encW; rw [Nat.mod_eq_of_lt hx]
   rw [this]; simpa using hy
  have hbs := (Array.getElem?_eq_some_iff.1 hb).1
  have hH : Holds encW w b 0 l.toArray := by
   intro j hj
   have hj' : j < l.length := by simpa using hj
   have h2 := hcv j l[j] (List.getElem?_eq_getElem hj')
   refine ⟨?_, by simp [World.frozen?, hb]⟩
   simp only [World.cell?, hb, Nat.zero_add]
   simpa [hj'] using h2
  have hcon := Any.slices_SortFunc_eq L encW (fun _ => rfl) cfW ltW_swo g #[] b 0 cap l.toArray w eg (fun m os dk _ x y => hcmp _ x y) hH hbs (by simpa using hl)
  have e1 : l.toArray.size = (l.map u32C).length := by simp
  have e2 : (.slice (some ⟨b, 0, none⟩) l.toArray.size cap : Value) = .slice (some ⟨b, 0, none⟩) (l.map u32C).length cap := by rw [e1]
  rw [e2] at hcon
  refine hcon.mono ?_
  rintro e w' ⟨rfl, n, os, rfl⟩
  obtain ⟨d', hd'⟩ : ∃ d', Go.Sort.pdq (ltOf cfW) l.toArray 0 l.toArray.size (Lib.bitLen l.toArray.size) true true = d' := ⟨_, rfl⟩
  have hsd : sortWd l = d'.toList := by unfold sortWd; rw [hd']
  rw [hd']
  rw [hsd] at hp hsl ⊢
  have hds : d'.size = l.length := by rw [← hsl]; simp
  have hat : ∀ b', b' < w.heap.size → (sortWorld encW w b 0 n d' os).heap[b']? = if b = b' then (w.heap[b']?).map (onCells (putCells encW 0 d')) else w.heap[b']? := fun b' hb' => by
   unfold sortWorld grow putRow mapBlock
   show ((w.heap.modify b _) ++ os)[b']? = _
   rw [Array.getElem?_append_left (by simpa using hb'), Array.getElem?_modify]
  have hlc' : l.length ≤ cap := by simpa using hlc
  refine ⟨rfl, ⟨rfl, rfl, rfl, Nat.le_add_right _ _, ?_, fun b' hb' hne => ?_⟩, .inr ⟨b, cap, putCells encW 0 d' xs, by simp [hds], Nat.zero_le _, ?_, by simpa [hds] using hlc', hcm, ?_, ?_, ?_⟩⟩
  ·show w.heap.size ≤ (sortWorld encW w b 0 n d' os).heap.size
   unfold sortWorld grow putRow mapBlock
   simp [ahead]
  ·refine (hat b' hb').trans (if_neg fun e => hne (by rw [e]; rfl))
  ·rw [hat b hbs, if_pos rfl, hb]
   rfl
  ·simp [putCells, hsz]
  ·intro r hr
   obtain ⟨x, _, rfl⟩ := List.mem_map.1 hr
   rfl
  ·intro i r j d hi hj
   rw [List.getElem?_map, Option.map_eq_some_iff] at hi
   obtain ⟨x, hx, rfl⟩ := hi
   have hj0 : j = 0 := by have := (List.getElem?_eq_some_iff.1 hj).1; simp at this; omega
   subst hj0
   simp at hj
   subst hj
   refine ⟨.int .u32 (x : Int), ?_, rfl, rfl⟩
   have hil : i < l.length := by have := (List.getElem?_eq_some_iff.1 hx).1; rwa [hsl] at this
   have hxs : i < xs.size := by rw [hsz]; omega
   have hx32 : x < 2 ^ 32 := h32 x (hp.mem_iff.1 (List.mem_of_getElem? hx))
   have hxd : d'[i]! = x := by
    rw [getElem!_pos _ i (by omega)]
    have := (List.getElem?_eq_some_iff.1 hx).2
    simpa using this
   unfold putCells
   simp only [Nat.mul_one, Nat.add_zero]
   rw [Array.getElem?_mapIdx, Array.getElem?_eq_getElem hxs, Option.map_some, if_pos ⟨Nat.zero_le _, by omega⟩, Nat.sub_zero, hxd]
   unfold encW
   rw [Nat.mod_eq_of_lt hx32]
end Go.Eng
end

section
namespace Go.Eng
section
variable {t : Tsk} {l : List Int}
end
end Go.Eng
end

section
namespace Go.Eng
end Go.Eng
end

section
namespace Go.Eng
end Go.Eng
end

section
namespace Go.Eng
theorem OpSem.binK {P : Program} {B : Nat} {o : Oper} {e : Env} {M : Mem} {op : BinOp} {t u : TypeId} {x y : Operand} {k k' : IntKind} {m n : Int} {z : Value} (ho : o.op = .binOp op t x y u) (hx : opS e x = some (.d (.v (.int k m)))) (hy : opS e y = some (.d (.v (.int k' n))))
  (hz : binOp op t (.int k m) (.int k' n) = pure z) : OpSem P B o e M (.d (.v z)) none :=
 .value fun O H a w hs _ => by
  have hx' := hs x (by simp [ho, Op.operands]) _ hx
  have hy' := hs y (by simp [ho, Op.operands]) _ hy
  generalize hv : a.eval x = v at hx'
  generalize hu : a.eval y = u at hy'
  cases hx' with
  | d _ _ hx' => cases hx' with
   | v _ => cases hy' with
    | d _ _ hy' => cases hy' with
     | v _ => exact ⟨z, by simp [execOp, ho, hv, hu, eqGuard_at_int, hz], .d _ _ (.v z)⟩
end Go.Eng
end

section
namespace Go.Proofs.YtgophedpkiidkaaGreat
open Go.Eng
set_option maxRecDepth 10000
set_option maxHeartbeats 4000000
theorem space_Word_does (s : List Int) (hs : ∀ p, p ∈ s → 0 ≤ p ∧ p < 24) (hl : s.length ≤ 1000000) : Does Tryz.prog false 75 [.d (ints s)] (.d (.v (.int .u32 (wdF s : Int)))) := by
 refine Does.of_body Tryz.func75 rfl rfl (by simp) Tryz.call75 (fun w0 O0 => ?_); refine .le 0 fun len0 => ?_; refine .g <| .r <| .a ?_; refine .z <| .a ?_; refine .sq <| .g <| .g <| .r <| .m ?_; refine .x (.n es22) ?_; refine .m ?_; refine .sq <| .k <| .loop (X := Nat) (fun k => k ≤ s.length) (fun k => [(3, .d (.v (.int .u32 ((wdT s k : Int))))), (6, .d (ints s)), (7, I (s.length)), (8, I (k))]) (fun k => []) (fun k => s.length - k) 0 (by omega) ?_ ?_
 ·exact .slot rfl (Le.of_eq rfl) <| .p2 <| .slot rfl (Le.of_eq (by simp)) <| .nil
 ·rintro k hkl
  refine .g <| .r <| .x (.b blss) ?_; refine .sq <| .g <| .cond rfl (fun c9 => ?_) (fun c9 => ?_)
  ·have hk : k < s.length := by simpa using c9
   have hsk := hs _ (nth_mem (l := s) (n := k) (by omega) (by omega))
   have hwl := wdT_lt (n := 24) (s := s) hs (k := k) (by omega)
   have hpw : (2 : Nat) ^ (nth s k).toNat < 2 ^ 24 := Nat.pow_lt_pow_right (by omega) (by omega)
   refine .p <| .g <| .g <| .k <| .g <| .r <| .x (.i es22) ?_; refine .x (.l1 vs3) ?_; refine .a ?_; refine .y <| .mm ?_; refine .x (OpSem.binK rfl rfl rfl (bshl32 (by omega) (by omega))) ?_; refine .x (OpSem.bin rfl rfl rfl (bor32 (by omega) (by omega))) ?_; refine .a ?_; refine .n <| .n <| .y <| .x .ad ?_; refine .m ?_; refine .n <| .again (k + 1) (by omega) ?_ (by omega); exact .slot rfl (Le.of_eq rfl) <| .p2 <| .slot rfl (Le.of_eq (by simp)) <| .nil
  ·have hk : k = s.length := by simp at c9; omega
   subst hk
   refine .u <| .u <| .u <| .b <| .z <| .m ?_; refine .a ?_; exact .sq <| .t <| .ret rfl (.tmp rfl <| .nil) rfl (Le.of_eq rfl)
theorem space_Facts_does (w : Nat) (hw : w < 2 ^ 32) : DoesO Tryz.prog 50 [.d (.v (.int .u32 ((w : Int))))] 1 3 (((fctW w).map fun n => [D.v (.int .i64 n)])) := by
 refine DoesO.of_body Tryz.func50 rfl rfl (by simp) Tryz.call50 (fun w0 O0 => ?_); refine .g <| .r <| .a ?_; refine .z <| .a ?_; refine .sq <| .g <| .g <| .ownNil (n := 3) 3 1 3 rfl ?_; refine .r <| .m ?_; refine .sq <| .k <| .loop (X := Nat) (fun k => k ≤ 32) (fun k => [(0, .d (.v (.int .u32 ((w : Int))))), (3, .o 3), (5, I (k))]) (fun k => [(3, .own 1 3 ((fctT w k).map fun n => [D.v (.int .i64 n)]))]) (fun k => 32 - k) 0 (by omega) ?_ ?_
 ·exact .p2 <| .slot rfl (Le.of_eq (by simp)) <| .memEq rfl (by simp [fctT]) <| .nil
 ·rintro k hkl
  refine .g <| .r <| .x (.b blss) ?_; refine .sq <| .g <| .cond rfl (fun c6 => ?_) (fun c6 => ?_)
  ·have hk : k < 32 := by simp at c6; omega
   have hle := fctT_len (w := w) (k := k)
   refine .p <| .g <| .g <| .k <| .g <| .r <| .m ?_; refine .a ?_; refine .z <| .mm ?_; refine .x (OpSem.binK rfl rfl rfl (bshrN (w := w) (i := k) (by omega))) ?_; refine .x (OpSem.bin rfl rfl rfl (band32 (b := 1) (Nat.lt_of_le_of_lt (Nat.div_le_self _ _) hw) (by decide))) ?_; refine .x (OpSem.bin rfl rfl rfl (beqU1 (m := (w / 2 ^ k &&& 1)))) ?_; refine .sq <| .cond rfl (fun c12 => ?_) (fun c12 => ?_)
   ·have hb : w.testBit k = true := wbit_1.1 (of_decide_eq_true c12)
    refine .r <| .mm ?_; refine .x (.bs es22 ze22) ?_; refine .ap es22 el22 zc3 by3 ?_; refine .a ?_; refine .n <| .n <| .y <| .x .ad ?_; refine .m ?_; refine .n <| .again (k + 1) (by omega) ?_ (by omega); exact .p2 <| .slot rfl (Le.of_eq (by simp)) <| .memEq rfl (by first | (rw [fct_t hb]; simp; done) | (rw [fct_f hb])) <| .nil
   ·have hb : ¬ w.testBit k = true := fun h => of_decide_eq_false c12 (wbit_1.2 h)
    refine .p <| .n <| .y <| .x .ad ?_; refine .m ?_; refine .n <| .again (k + 1) (by omega) ?_ (by omega); exact .p2 <| .slot rfl (Le.of_eq (by simp)) <| .memEq rfl (by first | (rw [fct_t hb]; simp; done) | (rw [fct_f hb])) <| .nil
  ·have hk : k = 32 := by simp at c6; omega
   subst hk
   refine .u <| .u <| .u <| .b <| .z <| .m ?_; refine .a ?_; exact .sq <| .t <| .retO2 rfl rfl rfl (by simp) (rfl)
theorem slices_Compare_int_int_does (a b : List Int) (hl : a.length ≤ 1000000) (hm : b.length ≤ 1000000) : Does Tryz.prog false 49 [.d (ints a), .d (ints b)] (I (cmpL a b)) := by
 refine Does.of_body Tryz.func49 rfl rfl (by simp) Tryz.call49 (fun w0 O0 => ?_); refine .le 0 fun len0 => ?_; refine .le 1 fun len1 => ?_; refine .g <| .r <| .a ?_; refine .sq <| .g <| .g <| .r <| .m ?_; refine .x (.n es22) ?_; refine .m ?_; refine .sq <| .k <| .loop (X := Nat) (fun k => k ≤ a.length ∧ k ≤ b.length ∧ ∀ i : Nat, i < k → nth a i = nth b i) (fun k => [(0, .d (ints a)), (1, .d (ints b)), (9, .d (ints a)), (10, I (a.length)), (11, I (k))]) (fun k => []) (fun k => a.length - k) 0 ⟨by omega, by omega, fun i hi => by omega⟩ ?_ ?_
 ·exact .p3 <| .sl <| .slot rfl (Le.of_eq (by simp)) <| .nil
 ·rintro k ⟨hkl, hkb0, hinv⟩
  refine .g <| .r <| .x (.b blss) ?_; refine .sq <| .g <| .cond rfl (fun c12 => ?_) (fun c12 => ?_)
  ·have hk : k < a.length := by simpa using c12
   refine .p <| .g <| .g <| .k <| .g <| .r <| .m ?_; refine .x (.i es22) ?_; refine .x (.l1 vs3) ?_; refine .a ?_; refine .a ?_; refine .sq <| .g <| .g <| .r <| .mm ?_; refine .x (.n es22) ?_; refine .x (.b bgeq) ?_; refine .sq <| .cond rfl (fun c19 => ?_) (fun c19 => ?_)
   ·refine .g <| .r <| .a ?_; exact .sq <| .t <| .t <| .k <| .t <| .t <| .k <| .t <| .ret rfl (.tmp rfl <| .nil) rfl (Le.i (cmpL_1 hk (by simp at c19; omega) hinv hkb0))
   ·have hkb : k < b.length := by simp at c19; omega
    refine .p <| .z <| .mm ?_; refine .x (.i es22) ?_; refine .x (.l1 vs3) ?_; refine .a ?_; refine .z <| .mm ?_; refine .x (OpSem.call0 (cmp_Compare_int_does (nth a k) (nth b k)) rfl rfl rfl rfl (Les.refl _)) ?_; refine .a ?_; refine .z <| .m ?_; refine .x (.b bneq) ?_; refine .sq <| .cond rfl (fun c28 => ?_) (fun c28 => ?_)
    ·have hc : cmpI (nth a k) (nth b k) ≠ 0 := by simpa using c28
     refine .g <| .r <| .m ?_; refine .a ?_; exact .sq <| .t <| .k <| .t <| .t <| .k <| .t <| .ret rfl (.tmp rfl <| .nil) rfl (Le.i (cmpL_2 hk hkb hinv hc))
    ·have hb : nth a k = nth b k := cmpI_0.1 (by simpa using c28)
     refine .p <| .n <| .y <| .x .ad ?_; refine .m ?_; refine .n <| .again (k + 1) ⟨by omega, by omega, all_succ hinv hb⟩ ?_ (by omega); exact .p3 <| .sl <| .slot rfl (Le.of_eq (by simp)) <| .nil
  ·have hk : k = a.length := by simp at c12; omega
   subst hk
   refine .u <| .u <| .u <| .b <| .g <| .g <| .g <| .r <| .m ?_; refine .x (.n es22) ?_; refine .m ?_; refine .x (.n es22) ?_; refine .x (.b blss) ?_; refine .sq <| .cond rfl (fun c35 => ?_) (fun c35 => ?_)
   ·have hab : a.length < b.length := by simp at c35; omega
    refine .g <| .r <| .a ?_; exact .sq <| .t <| .t <| .ret rfl (.tmp rfl <| .nil) rfl (Le.i (cmpL_3 hab hinv))
   ·have hab : b.length = a.length := by simp at c35; omega
    refine .p <| .z <| .a ?_; exact .sq <| .t <| .ret rfl (.tmp rfl <| .nil) rfl (Le.i (cmpL_4 hab hinv))
theorem space_Checked_1_does (x y : Nat) (hx : x < 2 ^ 32) (hy : y < 2 ^ 32) : Does Tryz.prog false 48 [.d (.v (.int .u32 ((x : Int)))), .d (.v (.int .u32 ((y : Int))))] (I (cmpL (fctW x) (fctW y))) := by
 refine Does.of_body Tryz.func48 rfl rfl (by simp) Tryz.call48 (fun w0 O0 => ?_); refine .g <| .r <| .a ?_; refine .z <| .m ?_; refine .x (OpSem.call0 (space_Facts_does x hx).fresh rfl rfl rfl rfl (Les.refl _)) ?_; refine .m ?_; refine .x (OpSem.call0 (space_Facts_does y hy).fresh rfl rfl rfl rfl (Les.refl _)) ?_; refine .x (OpSem.call0 (slices_Compare_int_int_does (fctW x) (fctW y) (Nat.le_trans fctT_len (by decide)) (Nat.le_trans fctT_len (by decide))) rfl rfl rfl rfl (Les.refl _)) ?_; refine .a ?_; exact .sq <| .t <| .ret rfl (.tmp rfl <| .nil) rfl (.refl _)
open Go.Shelf Go.RowKit Go.Lib
theorem chk_W (W : World) (x y : Nat) : Calls Tryz.prog 48 #[encW x, encW y] W fun e w' => e = .returned (.int .i64 (cfW x y)) ∧ ∃ q os', w' = _root_.Go.Sort.grow (W.drewN q) os' := by
  refine ((space_Checked_1_does (x % 2 ^ 32) (y % 2 ^ 32) (Nat.mod_lt _ (by decide)) (Nat.mod_lt _ (by decide))).run (fun _ => 0) W [encW x, encW y] rfl fun i v s hi hs => ?_).mono ?_
  · rcases i with _ | _ | i
    · simp at hi hs; subst hi hs; exact .d _ _ (.v _)
    · simp at hi hs; subst hi hs; exact .d _ _ (.v _)
    · simp at hi
  · rintro e w' ⟨v, rfl, hb, hr⟩
    refine ⟨?_, hb.grown⟩
    cases hr with
    | d _ _ hd => cases hd with
      | v _ => rfl
theorem shTq {α : Type} {x : Option α} {a b : α} (h : x = some a) (e : a = b) : x = some b := h.trans (congrArg some e)
def Tryz.sortU_ren : Go.Shelf.Ren := ⟨fun | 6 => 47 | 15 => 77 | 14 => 76 | 28 => 106 | 29 => 107 | 20 => 98 | 21 => 99 | 22 => 100 | 23 => 101 | 24 => 102 | 25 => 103 | 26 => 104 | 27 => 105 | 46 => 128 | 47 => 129 | 48 => 130 | 49 => 131 | 50 => 132 | 57 => 141 | n => n, fun | 22 => 67 | 24 => 72 | 25 => 107 | 3 => 3 | 39 => 154 | 0 => 0 | 53 => 72 | 55 => 192 | 4 => 4 | 46 => 186 | 45 => 185 | 50 => 29 | 5 => 5 | 9 => 9 | 66 => 212 | 70 => 216 | 76 => 229 | 77 => 230 | n => n, fun | n => n⟩
theorem Tryz.sortU : Go.Proofs.SlLaysF.n6 Tryz.prog Tryz.sortU_ren := {
 mixed := by kernel_rfl
 f6 := ⟨Tryz.f47.name, by decide, shTq Tryz.func47 (by kernel_rfl)⟩
 f14 := ⟨Tryz.f76.name, by decide, shTq Tryz.func76 (by kernel_rfl)⟩
 f15 := shTq Tryz.func77 (by kernel_rfl)
 f20 := ⟨Tryz.f98.name, by decide, shTq Tryz.func98 (by kernel_rfl)⟩
 f21 := ⟨Tryz.f99.name, by decide, shTq Tryz.func99 (by kernel_rfl)⟩
 f22 := ⟨Tryz.f100.name, by decide, shTq Tryz.func100 (by kernel_rfl)⟩
 f23 := ⟨Tryz.f101.name, by decide, shTq Tryz.func101 (by kernel_rfl)⟩
 f24 := ⟨Tryz.f102.name, by decide, shTq Tryz.func102 (by kernel_rfl)⟩
 f25 := ⟨Tryz.f103.name, by decide, shTq Tryz.func103 (by kernel_rfl)⟩
 f26 := ⟨Tryz.f104.name, by decide, shTq Tryz.func104 (by kernel_rfl)⟩
 f27 := ⟨Tryz.f105.name, by decide, shTq Tryz.func105 (by kernel_rfl)⟩
 f28 := shTq Tryz.func106 (by kernel_rfl)
 f29 := shTq Tryz.func107 (by kernel_rfl)
 f46 := ⟨Tryz.f128.name, by decide, shTq Tryz.func128 (by kernel_rfl)⟩
 f47 := shTq Tryz.func129 (by kernel_rfl)
 f48 := shTq Tryz.func130 (by kernel_rfl)
 f49 := ⟨Tryz.f131.name, by decide, shTq Tryz.func131 (by kernel_rfl)⟩
 f50 := ⟨Tryz.f132.name, by decide, shTq Tryz.func132 (by kernel_rfl)⟩
 f57 := ⟨Tryz.f141.name, by decide, shTq Tryz.func141 (by kernel_rfl)⟩
 t0 := Tryz.underlying0
 a0 := Tryz.isAgg0
 z0 := Tryz.sizeOf0
 v0 := Tryz.zeroValue0
 t3 := Tryz.underlying3
 a3 := Tryz.isAgg3
 z3 := Tryz.sizeOf3
 v3 := Tryz.zeroValue3
 t4 := Tryz.underlying4
 a4 := Tryz.isAgg4
 z4 := Tryz.sizeOf4
 v4 := Tryz.zeroValue4
 t5 := Tryz.underlying5
 a5 := Tryz.isAgg5
 z5 := Tryz.sizeOf5
 v5 := Tryz.zeroValue5
 t9 := Tryz.underlying9
 a9 := Tryz.isAgg9
 z9 := Tryz.sizeOf9
 v9 := Tryz.zeroValue9
 t22 := Tryz.underlying67
 a22 := Tryz.isAgg67
 z22 := Tryz.sizeOf67
 v22 := Tryz.zeroValue67
 a24 := Tryz.isAgg72
 z24 := Tryz.sizeOf72
 t25 := Tryz.underlying107
 a25 := Tryz.isAgg107
 z25 := Tryz.sizeOf107
 v25 := Tryz.zeroValue107
 t39 := Tryz.underlying154
 a39 := Tryz.isAgg154
 z39 := Tryz.sizeOf154
 v39 := Tryz.zeroValue154
 t45 := Tryz.underlying185
 a45 := Tryz.isAgg185
 z45 := Tryz.sizeOf185
 v45 := Tryz.zeroValue185
 t46 := Tryz.underlying186
 a46 := Tryz.isAgg186
 z46 := Tryz.sizeOf186
 v46 := Tryz.zeroValue186
 t50 := Tryz.underlying29
 a50 := Tryz.isAgg29
 z50 := Tryz.sizeOf29
 v50 := Tryz.zeroValue29
 t53 := Tryz.underlying72
 a53 := Tryz.isAgg72
 z53 := Tryz.sizeOf72
 v53 := Tryz.zeroValue72
 t55 := Tryz.underlying192
 a55 := Tryz.isAgg192
 z55 := Tryz.sizeOf192
 v55 := Tryz.zeroValue192
 t66 := Tryz.underlying212
 a66 := Tryz.isAgg212
 z66 := Tryz.sizeOf212
 v66 := Tryz.zeroValue212
 t70 := Tryz.underlying216
 a70 := Tryz.isAgg216
 z70 := Tryz.sizeOf216
 v70 := Tryz.zeroValue216
 t76 := Tryz.underlying229
 a76 := Tryz.isAgg229
 z76 := Tryz.sizeOf229
 v76 := Tryz.zeroValue229
 t77 := Tryz.underlying230
 a77 := Tryz.isAgg230
 z77 := Tryz.sizeOf230
 v77 := Tryz.zeroValue230 }
theorem sortWd_all (l : List Nat) (hl : l.length < 4611686018427387904) (hne : l ≠ []) (h32 : ∀ x, x ∈ l → x < 2 ^ 32) : DoesWS Tryz.prog 47 (fun v => [v, .func (.func 48) #[] #[]]) (.tuple #[]) 1 72 (l.map u32C) ((sortWd l).map u32C) :=
  sortWd_W Tryz.sortU 72 48 (enters_of Tryz.func48 (by kernel_rfl) rfl) chk_W Tryz.call47 l hl hne h32
end Go.Proofs.YtgophedpkiidkaaGreat
end

section
namespace Go.Eng
def anyH : S → Bool
 | .d _ | .p _ => true
 | _ => false
section
variable {P : Program} {N : Nat} {w0 : World} {O0 : Nat → Nat} {ops : Array Oper} {Q : Post} {e : Env} {M : Mem} {rest : List Oper} {o : Oper} {s : S} {B : Nat} {c : Code}
abbrev Plc := Option (Nat × Nat × List Value)
end
end Go.Eng
end

section
namespace Go.Eng
end Go.Eng
end

section
namespace Go.Eng
end Go.Eng
end

section
namespace Go.Eng
def cs0 (t : Tsk) (l : List (List Int)) (k : Nat) : List Int := (l.take k).map fun s => if SubP t.goal s then 0 else 1000000000
end Go.Eng
end

section
namespace Go.Eng
section
variable {t : Tsk} {l : List (List Int)} {i o k : Nat}
end
end Go.Eng
end

section
namespace Go.Eng
abbrev Mx := List (List Int)
end Go.Eng
end

section
namespace Go.Eng
section
variable {R : Mx} {b : List Int} {n : Nat}
end
end Go.Eng
end

section
namespace Go.Eng
section
variable {p : LPr} {t : Tb}
end
end Go.Eng
end

section
namespace Go.Eng
structure Ag where
 bs : Nat
 vs : Value
 bd : Nat
 da : Option Addr
 db : Nat
 dc : Nat
 dt : List Value
 ba : Nat
 fv : Value
 bp : Nat
 t1 : Nat
 t2 : Nat
 t3 : Nat
 t4 : Nat
 TB : Nat
 TI : Nat
section
variable {g : Ag} {x : AcSt} {p : Plc} {n : Nat}
end
end Go.Eng
end

section
namespace Go.Eng
def plO (t : Tsk) (s : List Int) : Prop := sttF t s = (0, 0) ∧ plB t s
open Classical in
noncomputable def plQ (t : Tsk) (s : List Int) : List Int := if plO t s then plL t s else []
open Classical in
noncomputable def plY (t : Tsk) (s : List Int) : Bool := decide (plO t s)
end Go.Eng
end

section
namespace Go.Eng
def hfree : Nat → S → Bool
 | 0, _ => false
 | n + 1, s => match s with
  | .d _ | .p _ => true
  | .g cs => cs.all (hfree n)
  | _ => false
theorem hfree_rep {O : Nat → Nat} {H H' : Nat → Value} {w : World} : ∀ (n : Nat) {v : Value} {s : S}, hfree n s = true → RepS O H w v s → RepS O H' w v s
 | 0, _, _, h, _ => by simp [hfree] at h
 | n + 1, v, s, h, hr => by
  cases hr with
  | d x y hd => exact .d _ _ hd
  | p b off cs y hO hy hr => exact .p b off cs y hO hy hr
  | g xs ss hl h1 hg =>
   simp only [hfree] at h
   exact .g xs ss hl h1 fun i x s hx hs => hfree_rep n (List.all_eq_true.1 h s (List.mem_of_getElem? hs)) (hg i x s hx hs)
  | _ => simp [hfree] at h
section
variable {P : Program} {N : Nat} {w0 : World} {O0 : Nat → Nat} {ops : Array Oper} {Q : Post} {e : Env} {M : Mem} {rest : List Oper} {o : Oper} {s : S} {B : Nat} {c : Code}
end
section
variable {P : Program} {N : Nat} {w0 : World} {O0 : Nat → Nat} {ops : Array Oper} {Q : Post} {e : Env} {M : Mem} {rest : List Oper}
end
abbrev Mxx := List (List Int)
abbrev Bk := Nat × Nat × List Value
structure Pk where
 a : Option Addr
 r : Nat
 rc : Nat
 rt : List Value
 TR : Nat
 TI : Nat
section
variable {g : Pk} {n : Nat} {L : List Bk} {v v' : Mxx}
end
section
variable {P : Program} {N : Nat} {B : Nat} {o : Oper} {e : Env} {M : Mem} {g : Pk} {n : Nat} {L : List Bk} {v : Mxx} {h : Nat}
end
end Go.Eng
end

section
namespace Go.Eng
theorem Does.asM {P : Program} {fr : Bool} {f : Nat} {args : List S} {res : S} {vs : List Value} {ds : Ds} {R : Value → Res → Ds → Prop} (h : Does P fr f args res) (hl : vs.length = args.length) (hA : ∀ (i : Nat) (v : Value) (s : S), vs[i]? = some v → args[i]? = some s → s = .d (.v v) ∨ (v, s) ∈ ds)
  (hR : ∀ (O : Nat → Nat) (w : World) (v : Value), RepS O zH w v res → ∃ ds', R v (fo []) ds' ∧ ∀ p, p ∈ ds' → ∀ H, RepS O H w p.1 p.2) : DoesM P f vs ds 0 (fo []) R := by
 refine ⟨h.can, .inl fun i hi => absurd hi (Nat.not_lt_zero i), fun O w _ hd => (h.run O w vs hl fun i x s hx hs => ?_).mono ?_⟩
 ·rcases hA i x s hx hs with rfl | hm
  ·exact .d _ _ (.v _)
  ·exact hd _ hm _
 ·rintro en w' ⟨x, rfl, hb, hr⟩
  have hr' : RepS (ext O w.heap.size) zH w' x res := by
   cases fr with
   | true => exact hr.keeps Fr_ext
   | false => exact hr
  obtain ⟨ds', h1, h2⟩ := hR _ _ _ hr'
  refine ⟨x, fo [], ds', ext O w.heap.size, rfl, h1, ⟨hb.os, hb.tape, hb.output, hb.drawn⟩, fun b hlt h0 => ⟨by simp [ext, hlt, h0], hb.block b hlt⟩, fun b hlt h0 => ⟨by simp [ext, hlt, h0], hb.block b hlt⟩, fun i hi => absurd hi (Nat.not_lt_zero i), h2⟩
theorem Does.toM0 {P : Program} {fr : Bool} {f : Nat} {args : List S} {res : S} {vs : List Value} {ds : Ds} {v0 : Value} (h : Does P fr f args res) (hl : vs.length = args.length) (hA : ∀ (i : Nat) (v : Value) (s : S), vs[i]? = some v → args[i]? = some s → s = .d (.v v) ∨ (v, s) ∈ ds) (hv : valS zH 9 res = some v0) :
  DoesM P f vs ds 0 (fo []) (fun v F' ds' => v = v0 ∧ F' = fo [] ∧ ds' = []) :=
 h.asM hl hA fun O w v hr => ⟨[], ⟨valS_rep 9 hr hv, rfl, rfl⟩, fun p hp => by cases hp⟩
theorem DoesM.toDoes {P : Program} {f : Nat} {args : List S} {res : S} {R : Value → Res → Ds → Prop} (can : ∀ xs w, (callFunc f xs).run P w = .ok (.enter f xs) w) (h : ∀ vs : List Value, vs.length = args.length → DoesM P f vs (vs.zip args) 0 (fo []) R) (hf : args.all (hfree 9) = true)
  (hR : ∀ (O : Nat → Nat) (w : World) (v : Value) (F' : Res) (ds' : Ds), R v F' ds' → (∀ p, p ∈ ds' → ∀ H, RepS O H w p.1 p.2) → RepS O zH w v res) : Does P false f args res := by
 refine ⟨can, fun O w xs hl hx => ?_⟩
 obtain ⟨O1, hO1⟩ : ∃ O1 : Nat → Nat, O1 = fun b => if O b = 0 then 0 else 1000 := ⟨_, rfl⟩
 have hk : Keeps O w O1 w := fun b _ h0 => ⟨by rw [hO1]; simp [h0], rfl⟩
 refine ((h xs hl).run O1 w (fun i hi => absurd hi (Nat.not_lt_zero i)) (fun p hp H => ?_)).mono ?_
 ·obtain ⟨i, hi⟩ := List.getElem?_of_mem hp
  rw [List.getElem?_zip_eq_some] at hi
  exact (hfree_rep 9 (List.all_eq_true.1 hf _ (List.mem_of_getElem? hi.2)) (hx i _ _ hi.1 hi.2)).keeps hk
 ·rintro en w' ⟨v, F', ds', O', rfl, hr, ⟨hos, htp, hout, hdr⟩, hk1, hs1, _, hds⟩
  have hall : ∀ b, b < w.heap.size → w'.heap[b]? = w.heap[b]? := fun b hb => by
   by_cases h0 : O b = 0
   ·exact (hk1 b hb (by rw [hO1]; simp [h0])).2
   ·exact (hs1 b hb (by rw [hO1]; simp [h0])).2
  have hsz : w.heap.size ≤ w'.heap.size := by
   rcases Nat.eq_zero_or_pos w.heap.size with h0 | h0
   ·omega
   ·have hlt : w.heap.size - 1 < w.heap.size := by omega
    have := hall _ hlt
    rw [Array.getElem?_eq_getElem hlt] at this
    have := (Array.getElem?_eq_some_iff.1 this).1
    omega
  refine ⟨v, rfl, ⟨hos, htp, hout, hsz, hall, hdr⟩, (hR O' w' v F' ds' hr hds).keeps (fun b _ h0 => ⟨?_, rfl⟩)⟩
  show ext O w.heap.size b = 0
  unfold ext
  split
  ·rename_i hb
   by_cases h1 : O b = 0
   ·exact h1
   ·have := (hs1 b hb (by rw [hO1]; simp [h1])).1
    omega
  ·rfl
section
variable {P : Program} {N : Nat} {w0 : World} {O0 : Nat → Nat} {ops : Array Oper} {Q : Post} {e : Env} {M : Mem} {rest : List Oper} {B : Nat} {o : Oper} {s : S} {c : Code}
theorem St.seeD {O : Nat → Nat} {H : Nat → Value} {a : Act} {w : World} (n k : Nat) {v : Value} {s : S} {ds : Ds} (hn : look e n = some (.d (.v v))) (hM : look M k = some (.fr (dsS ds))) (hp : (v, s) ∈ ds) (hst : St N w0 O0 e M O H a w) : St N w0 O0 ((n, s) :: e) M O H a w := by
 refine ⟨hst.df, hst.sz, hst.bl, hst.lab, fun m s' hs => ?_, hst.mem⟩
 rcases look_cons hs with ⟨rfl, rfl⟩ | ⟨_, hs⟩
 ·obtain ⟨x, hx, hr⟩ := hst.slots _ _ hn
  exact ⟨x, hx, by rw [rep_v hr]; exact hst.mem k _ hM _ hp H⟩
 ·exact hst.slots m s' hs
theorem Tr.seeD (n k : Nat) {v : Value} {s : S} {ds : Ds} (hn : look e n = some (.d (.v v))) (hM : look M k = some (.fr (dsS ds))) (hp : (v, s) ∈ ds) (hc : Tr P N w0 O0 ((n, s) :: e) M c Q) : Tr P N w0 O0 e M c Q := fun O H a w hst => hc O H a w (hst.seeD n k hn hM hp)
end
theorem beqUU {t : TypeId} {m n : Nat} : binOp .eql t (.int .u32 (m : Int)) (.int .u32 (n : Int)) = pure (.bool (decide (m = n))) := by
 rw [binOp_eql]
 have e : decide (m = n) = decide ((m : Int) = n) := decide_eq_decide.2 (by omega)
 rw [e]; congr 2
section
variable {P : Program} {N : Nat} {w0 : World} {O0 : Nat → Nat} {ops : Array Oper} {Q : Post} {e : Env} {M : Mem} {rest : List Oper} {B : Nat} {o : Oper} {s : S} {c : Code}
end
abbrev mskC (o : SOp) : List D := [.v (.int .u32 (wdF o.pre : Int)), .v (.int .u32 (wdF o.add : Int)), .v (.int .u32 (wdF o.del : Int)), .v (.int .i64 o.cost)]
abbrev mssD (l : List SOp) : D := .s 4 (l.map mskC)
theorem msk_take {l : List SOp} {k : Nat} (hk : k < l.length) : (l.take k).map mskC ++ [mskC (nth l k)] = (l.take (k + 1)).map mskC := by
 rw [List.take_succ_eq_append_getElem hk, nth_eq hk, List.map_append]; rfl
abbrev wrdsS (t : Tsk) : S := .p [.v (.int .u32 (wdF t.ini : Int)), .v (.int .u32 (wdF t.goal : Int)), mssD t.ops]
theorem wds24 {t : Tsk} {s : List Int} (hV : TskV t) (h : SetP t.facts s) : wdF s < 2 ^ 24 := wd_lt hV fun p hp => setP_mem h hp
end Go.Eng
end

section
namespace Go.Proofs.YtgophedpkiidkaaGreat
open Go.Eng
set_option maxRecDepth 10000
set_option maxHeartbeats 4000000
theorem space_Of_does (t : Tsk) (hV : TskV t) : Does Tryz.prog false 45 [tskS t] (wrdsS t) := by
 have hf0 := hV.facts
 have hol := hV.ops
 refine Does.of_body Tryz.func45 rfl rfl (by simp) Tryz.call45 (fun w0 O0 => ?_); refine .lg 0 1 fun len0_1 => ?_; refine .lg 0 2 fun len0_2 => ?_; refine .lg 0 3 fun len0_3 => ?_; refine .g <| .r <| .bx 1 ?_; refine .a ?_; refine .sq <| .g <| PC.start [] ?_; refine .x (.f fo43_1) ?_; refine .x (.l vs22) ?_; refine .x (OpSem.call0 (space_Word_does t.ini (fun p hp => by have := setP_mem hV.ini hp; omega) (setP_len hV.ini hf0.2)) rfl rfl rfl rfl (Les.refl _)) ?_; refine .x (.f fo43_2) ?_; refine .x (.l vs22) ?_; refine .d0 mixed ?_; refine .x (OpSem.call0 (space_Word_does t.goal (fun p hp => by have := setP_mem hV.goal hp; omega) (setP_len hV.goal hf0.2)) rfl rfl rfl rfl (Les.refl _)) ?_; refine .x (.bd pl126 zc126) ?_; refine .bx 13 ?_; refine .a ?_; refine .sq <| .g <| .g <| .ownNilBox 91 13 2 4 150 rfl rfl rfl ?_; refine .r <| .x (.f fo43_3) ?_; refine .x (.l vs41) ?_; refine .x (.n es41) ?_; refine .m ?_; refine .sq <| .k <| .loop (X := Nat) (fun k => k ≤ t.ops.length) (fun k => [(3, .r 13 0), (15, .d (sopsD t.ops)), (16, I (t.ops.length)), (17, I (k))]) (fun k => [(13, .box [.d (.v (.int .u32 ((wdF t.ini : Int)))), .d (.v (.int .u32 ((wdF t.goal : Int)))), .o 91]), (91, .own 4 150 ((t.ops.take k).map mskC))]) (fun k => t.ops.length - k) 0 (by omega) ?_ ?_
 ·exact .p3 <| .slot rfl (Le.of_eq (by simp)) <| .mem rfl <| .memEq rfl (by simp) <| .nil
 ·rintro k hkl
  refine .g <| .r <| .x (.b blss) ?_; refine .sq <| .g <| .cond rfl (fun c18 => ?_) (fun c18 => ?_)
  ·have hk : k < t.ops.length := by simpa using c18
   have ho := (hV.op k hk).1
   refine .p <| .g <| .g <| .k <| .g <| .r <| .x (.i es41) ?_; refine .x (.lN vs75) ?_; refine .al 5 zc75 ?_; refine .sb vs75 ?_; refine .sq <| PC.start [] ?_; refine .mm ?_; refine .x (OpSem.nilr rfl rfl) ?_; refine .x (.f fo126_2) ?_; refine .x (.l vs124) ?_; refine .x (.f fo75_0) ?_; refine .x (.l vs22) ?_; refine .x (OpSem.call0 (space_Word_does (nth t.ops k).pre (fun p hp => by have := setP_mem ho.1 hp; omega) (setP_len ho.1 hf0.2)) rfl rfl rfl rfl (Les.refl _)) ?_; refine .x (.f fo75_1) ?_; refine .x (.l vs22) ?_; refine .x (OpSem.call0 (space_Word_does (nth t.ops k).add (fun p hp => by have := setP_mem ho.2.1 hp; omega) (setP_len ho.2.1 hf0.2)) rfl rfl rfl rfl (Les.refl _)) ?_; refine .x (.f fo75_2) ?_; refine .x (.l vs22) ?_; refine .x (OpSem.call0 (space_Word_does (nth t.ops k).del (fun p hp => by have := setP_mem ho.2.2.1 hp; omega) (setP_len ho.2.2.1 hf0.2)) rfl rfl rfl rfl (Les.refl _)) ?_; refine .x (.f fo75_3) ?_; refine .x (.l vs3) ?_; refine .x (.bd pl150 zc150) ?_; refine .x (.bs es124 ze124) ?_; refine .doneS [0] [[], [0]] mixed (by kernel_rfl) (by kernel_rfl) (by kernel_rfl) (by kernel_rfl) (by kernel_rfl) (by decide) rfl (by kernel_rfl) ⟨?_, ?_, trivial⟩
   ·refine ⟨[], _, by kernel_rfl, by repeat' (first | exact .nil | (apply DropRs.hit; rfl) | (apply DropRs.miss; rfl)), ?_⟩; refine .ap es124 el124 zc150 by150 ?_; refine TrSet.start ?_; refine .zero ?_; refine .x (OpSem.nilr rfl rfl) ?_; refine .x (.f fo126_2) ?_; refine .sb vs124 ?_; refine .n <| .n <| .y <| .x .ad ?_; refine .m ?_; refine .n <| .again (k + 1) (by omega) ?_ (by omega); exact .p3 <| .slot rfl (Le.of_eq (by simp)) <| .mem rfl <| .memEq rfl (congrArg (Mo.own 4 150) (msk_take hk)) <| .nil
   ·refine ⟨[21], _, by kernel_rfl, by repeat' (first | exact .nil | (apply DropRs.hit; rfl) | (apply DropRs.miss; rfl)), ?_⟩; refine .ap es124 el124 zc150 by150 ?_; refine TrSet.start ?_; refine .succ ⟨?_, trivial⟩
    ·refine .inr (TrI.sem rfl (OpSem.move (.inl rfl) rfl) rfl rfl (by decide) rfl ?_); refine .zero ?_; refine .x (OpSem.nilr rfl rfl) ?_; refine .x (.f fo126_2) ?_; refine .sb vs124 ?_; refine .n <| .n <| .y <| .x .ad ?_; refine .m ?_; refine .n <| .again (k + 1) (by omega) ?_ (by omega); exact .p3 <| .slot rfl (Le.of_eq (by simp)) <| .mem rfl <| .memEq rfl (congrArg (Mo.own 4 150) (msk_take hk)) <| .nil
  ·have hk : k = t.ops.length := by simp at c18; omega
   subst hk
   refine .u <| .u <| .u <| .b <| .g <| .g <| .memEq (h := 91) (m' := .own 4 150 (t.ops.map mskC)) rfl (by rw [List.take_length]) ?_; refine .freeze 91 rfl ?_; refine .freezeR 13 rfl rfl ?_; refine .r <| .m ?_; refine .a ?_; exact .sq <| .t <| .ret rfl (.tmp rfl <| .nil) rfl (.refl _)
theorem space_Words_Start_does (t : Tsk) {sv : Value} : Does Tryz.prog false 25 [.p [.v (.int .u32 (wdF t.ini : Int)), .v (.int .u32 (wdF t.goal : Int)), .v sv]] (.d (.v (.int .u32 (wdF t.ini : Int)))) := by
 refine Does.of_body Tryz.func25 rfl rfl (by simp) Tryz.call25 (fun w0 O0 => ?_); refine .g <| .r <| .a ?_; refine .z <| .m ?_; refine .x (OpSem.nilp rfl rfl) ?_; refine .x (OpSem.fieldp rfl rfl fo126_0) ?_; refine .x (.l1 vs72) ?_; refine .a ?_; exact .sq <| .t <| .ret rfl (.tmp rfl <| .nil) rfl (.refl _)
theorem space_Words_Goal_does (t : Tsk) {sv : Value} (s : Nat) (hs : s < 2 ^ 24) (hg : wdF t.goal < 2 ^ 24) : Does Tryz.prog false 52 [.p [.v (.int .u32 (wdF t.ini : Int)), .v (.int .u32 (wdF t.goal : Int)), .v sv], .d (.v (.int .u32 ((s : Int))))] (Bo (decide (s &&& wdF t.goal = wdF t.goal))) := by
 refine Does.of_body Tryz.func52 rfl rfl (by simp) Tryz.call52 (fun w0 O0 => ?_); refine .g <| .r <| .a ?_; refine .sq <| .g <| PC.start [] ?_; refine .mm ?_; refine .x (OpSem.nilp rfl rfl) ?_; refine .x (OpSem.fieldp rfl rfl fo126_1) ?_; refine .x (.l1 vs72) ?_; refine .x (OpSem.bin rfl rfl rfl (band32 (by omega) (by omega))) ?_; refine .m ?_; refine .x (OpSem.nilp rfl rfl) ?_; refine .x (OpSem.fieldp rfl rfl fo126_1) ?_; refine .x (.l1 vs72) ?_; refine .d0 mixed ?_; refine .x (.b beqUU) ?_; refine .a ?_; exact .sq <| .t <| .ret rfl (.tmp rfl <| .nil) rfl (.refl _)
end Go.Proofs.YtgophedpkiidkaaGreat
end

section
namespace Go.Eng
section
variable {P : Program} {N : Nat} {w0 : World} {O0 : Nat → Nat} {ops : Array Oper} {Q : Post} {e : Env} {M : Mem} {rest : List Oper} {B : Nat} {o : Oper} {s : S} {c : Code}
theorem SeqD.of_body {gf n : Nat} {fn : Func} {lb : List Value} {enc : Nat → Value} {O : Nat → Nat} {w : World} {ds : Ds} (hf : P.funcs[gf]? = some fn) (hb : fn.body = some c) (hN : fn.ntmps = N) (hlen : lb.length + 1 ≤ N) (hds : ∀ p, p ∈ ds → ∀ H, RepS O H w p.1 p.2)
    (h : ∀ (l : Nat) (Of : Nat → Nat) (Z : Nat → World → Prop) (W : World), (∀ k A A', Z k A → Below A.heap.size A A' → Z k A') → (∀ k A, Z k A → ∀ p, p ∈ ds → ∀ H, RepS Of H A p.1 p.2) →
      (∀ k A, k < n → Z k A → YieldAt Fence.wide 1 P l #[enc k] A fun en W' => en = .returned (.bool true) ∧ Z (k + 1) W') → Z 0 W →
      TrP P N W Of (entry 0 ((Value.func (.yield l) #[] #[] :: lb).map fun v => S.d (.v v))) [(1001, .fr (dsS ds))] c (bodyPost P fn fun en W' => (∃ v, en = .returned v) ∧ Z n W')) : SeqD P gf lb n enc O w := by
  intro l J W hW hg hY hJ
  obtain ⟨Of, hOf⟩ : ∃ Of : Nat → Nat, Of = fun b => if b < w.heap.size ∧ O b = 0 then 0 else 1 := ⟨_, rfl⟩
  have hrep : ∀ A : World, (∀ b, b < w.heap.size → O b = 0 → A.heap[b]? = w.heap[b]?) → ∀ p, p ∈ ds → ∀ H, RepS Of H A p.1 p.2 := fun A hA p hp H =>
    (hds p hp H).keeps fun b hb h0 => ⟨by rw [hOf]; simp [hb, h0], hA b hb h0⟩
  have hlow : ∀ A : World, (∀ b, b < w.heap.size → O b = 0 → A.heap[b]? = w.heap[b]?) → ∀ A', Below A.heap.size A A' → ∀ b, b < w.heap.size → O b = 0 → A'.heap[b]? = w.heap[b]? := fun A hA A' hB b hb h0 => by
    by_cases hlt : b < A.heap.size
    · exact (hB.block b hlt).trans (hA b hb h0)
    · have h1 := hA b hb h0
      rw [Array.getElem?_eq_none (by omega), Array.getElem?_eq_getElem hb] at h1
      cases h1
  have key := h l Of (fun k A => J k A ∧ ∀ b, b < w.heap.size → O b = 0 → A.heap[b]? = w.heap[b]?) W (fun k A A' hz hB => ⟨hg k A A' hz.1 hB, hlow A hz.2 A' hB⟩) (fun k A hz => hrep A hz.2) (fun k A hk hz => by
    obtain ⟨f1, f2, f3, f4, f5, f6⟩ := hY k A hk hz.1
    exact ⟨f1, f2, f3, f4, f5, f6.mono fun en W' ⟨g1, g2, g3⟩ => ⟨g1, g2, fun b hb h0 => (g3 b hb h0).trans (hz.2 b hb h0)⟩⟩) ⟨hJ, fun b hb h0 => hW b hb h0⟩
  have hst : St N W Of (entry 0 ((Value.func (.yield l) #[] #[] :: lb).map fun v => S.d (.v v))) [(1001, .fr (dsS ds))] Of (fun _ => undef) { tmps := (#[Value.func (.yield l) #[] #[]] ++ lb.toArray) ++ Array.replicate (N - (#[Value.func (.yield l) #[] #[]] ++ lb.toArray).size) undef, defers := [] } W := by
    refine ⟨rfl, by simp; omega, .refl _ _, fun _ _ => rfl, fun n' s' hs => ?_, fun k m hm => ?_⟩
    · obtain ⟨_, hn⟩ := look_entry _ 0 n' s' hs
      simp only [Nat.sub_zero, List.getElem?_map, Option.map_eq_some_iff] at hn
      obtain ⟨v, hn, rfl⟩ := hn
      refine ⟨v, ?_, .d _ _ (.v _)⟩
      have hlt := (List.getElem?_eq_some_iff.1 hn).1
      have e1 : (#[Value.func (.yield l) #[] #[]] ++ lb.toArray) = (Value.func (.yield l) #[] #[] :: lb).toArray := by simp
      rw [e1, Array.getElem?_append_left (by simpa using hlt)]
      simpa using hn
    · rcases look_cons hm with ⟨rfl, rfl⟩ | ⟨_, hm⟩
      · exact hrep W fun b hb h0 => hW b hb h0
      · cases hm
  refine callsIn_wide.2 ((calls_of_wp (R := fun en W' => (∃ v, en = .returned v) ∧ (J n W' ∧ ∀ b, b < w.heap.size → O b = 0 → W'.heap[b]? = w.heap[b]?)) hf hb (by rw [hN]; exact key Of (fun _ => undef) _ W hst)).mono fun en W' hz => ⟨hz.1, hz.2.1⟩)
theorem St.rebase {O : Nat → Nat} {H : Nat → Value} {a : Act} {w : World} {Of : Nat → Nat} {k1 : Nat} {ds : Ds} {e' : Env} (hst : St N w0 O0 e M O H a w) (he : Sub e M e' []) (hr : rawE e' = true) (hd : ∀ p, p ∈ ds → ∀ H, RepS Of H w p.1 p.2) : St N w Of e' [(k1, .fr (dsS ds))] Of (fun _ => undef) a w := by
  refine ⟨hst.df, hst.sz, .refl _ _, fun _ _ => rfl, fun n s hl => ?_, fun m mo hm => ?_⟩
  · obtain ⟨u, rfl⟩ := look_raw hr hl
    obtain ⟨y, hy, hyr⟩ := (he.st hst).slots n _ hl
    exact ⟨y, hy, by rw [rep_v hyr]; exact .d _ _ (.v _)⟩
  · rcases look_cons hm with ⟨rfl, rfl⟩ | ⟨_, hm⟩
    · exact hd
    · cases hm
def LoopY (N : Nat) (Of : Nat → Nat) (ds : Ds) (Z : Nat → World → Prop) {X : Type} (p : X → Prop) (cnt : X → Nat) (I : X → Env) (μ : X → Nat) : Nat → Act → World → Prop := fun m a w =>
  ∃ x, p x ∧ μ x = m ∧ Z (cnt x) w ∧ St N w Of (I x) [(1001, .fr (dsS ds))] Of (fun _ => undef) a w
theorem TrP.loopY {Of : Nat → Nat} {ds : Ds} {Z : Nat → World → Prop} {X : Type} (p : X → Prop) (cnt : X → Nat) (I : X → Env) (μ : X → Nat) (x0 : X) (hg : ∀ k A A', Z k A → Below A.heap.size A A' → Z k A') (hd : ∀ k A, Z k A → ∀ p, p ∈ ds → ∀ H, RepS Of H A p.1 p.2)
    (h0 : p x0) (hz : Z (cnt x0) w0) (hs : Sub e M (I x0) []) (hr : ∀ x, rawE (I x) = true)
    (hb : ∀ x A, p x → Z (cnt x) A → TrP P N A Of (I x) [(1001, .fr (dsS ds))] c (Exit.then (fun a w => ∃ m', m' < μ x ∧ LoopY N Of ds Z p cnt I μ m' a w) Q)) : TrP P N w0 O0 e M (.loop c) Q :=
  TrP.loopI (LoopY N Of ds Z p cnt I μ) (μ x0) (fun O H a w hst => ⟨x0, h0, rfl, hg _ _ _ hz (hst.bl.mono (Nat.le_refl _)), hst.rebase hs (hr _) (hd _ _ (hg _ _ _ hz hst.bl))⟩)
    fun m a w ⟨x, h1, h2, h3, h4⟩ => by subst h2; exact hb x w h1 h3 Of _ a w h4
theorem At.againY {Of : Nat → Nat} {ds : Ds} {Z : Nat → World → Prop} {X : Type} {p : X → Prop} {cnt : X → Nat} {I : X → Env} {μ : X → Nat} {m : Nat} (x : X) (hg : ∀ k A A', Z k A → Below A.heap.size A A' → Z k A') (hd : ∀ k A, Z k A → ∀ p, p ∈ ds → ∀ H, RepS Of H A p.1 p.2)
    (hp : p x) (hz : Z (cnt x) w0) (hlt : μ x < m) (hr : rawE (I x) = true) (hs : Sub e M (I x) []) : At N w0 O0 e M .normal (Exit.then (fun a w => ∃ m', m' < m ∧ LoopY N Of ds Z p cnt I μ m' a w) Q) :=
  fun O H a w hst => ⟨μ x, hlt, x, hp, rfl, hg _ _ _ hz hst.bl, hst.rebase hs hr (hd _ _ (hg _ _ _ hz hst.bl))⟩
theorem AtP.retY {Z : Nat → World → Prop} {n : Nat} {fn : Func} {x : Exit} (hx : x = .ret ∨ x = .normal) (hres : fn.results.toList = []) (hg : ∀ k A A', Z k A → Below A.heap.size A A' → Z k A') (hz : Z n w0) : At N w0 O0 e M x (bodyPost P fn fun en W' => (∃ v, en = .returned v) ∧ Z n W') := by
  intro O H a w hst
  have key : a.defers = [] ∧ ∃ v, (results fn a.tmps).run P w = .ok v w ∧ ((∃ v', Ending.returned v = .returned v') ∧ Z n w) :=
    ⟨hst.df, _, retVal (v := .tuple #[]) (l := []) hst hres .nil (fun H => rfl), ⟨_, rfl⟩, hg _ _ _ hz hst.bl⟩
  rcases hx with rfl | rfl <;> exact key
theorem TrY.preN {l : List Oper} (k : Nat) (h : TrOps P N w0 O0 ops (YPost P ops Q (l.drop k)) e M (l.take k)) : TrY P N w0 O0 ops Q e M l := by
  have := TrY.pre h
  rwa [List.take_append_drop] at this
theorem TrY.gT {j d' : Nat} {b c : Bool} {oj : Oper} (hg : o.guard = some (j, b)) (hj : ops[j]? = some oj) (hdj : oj.dst = some d') (hb : look e d' = some (.d (.v (.bool c)))) (hc : c = b)
    (h : TrY P N w0 O0 ops Q e M ({ o with guard := none } :: rest)) : TrY P N w0 O0 ops Q e M (o :: rest) := by
  subst hc
  intro O H a w hst
  have := h O H a w hst
  obtain ⟨x, hx, hr⟩ := hst.slots _ _ hb
  have hxb : x = .bool c := by
    cases hr with
    | d _ _ q => cases q with
      | v _ => rfl
  subst hxb
  have hw : Region.wanted o (yielded ops a.tmps) = true := by simp [Region.wanted, hg, yielded, hj, hdj, hx]
  simp only [wpListIn, hw, if_true]
  simp only [wpListIn, Region.wanted, if_true] at this
  exact this
theorem TrY.yieldZ {l d k : Nat} {g x : Operand} {ts : Array TypeId} {v : Value} {sx : S} {Of : Nat → Nat} {ds : Ds} {Z : Nat → World → Prop} (e' : Env) (hY : ∀ A, Z k A → YieldAt Fence.wide 1 P l #[v] A fun en W' => en = .returned (.bool true) ∧ Z (k + 1) W') (hg : ∀ k A A', Z k A → Below A.heap.size A A' → Z k A') (hd : ∀ k A, Z k A → ∀ p, p ∈ ds → ∀ H, RepS Of H A p.1 p.2) (hz : Z k w0) (ho : o.op = .call { callee := .value g, args := #[x], argTypes := ts }) (hgd : o.guard = none) (hdd : o.dst = some d) (hdN : d < N)
    (hgv : opS e g = some (.d (.v (.func (.yield l) #[] #[])))) (hx : opS e x = some sx) (hv : ∀ H, valS H 9 sx = some v) (he : Sub e M e' []) (hr : rawE e' = true)
    (hc : ∀ W', Z (k + 1) W' → TrY P N W' Of ops Q ((d, .d (.v (.bool true))) :: e') [(1001, .fr (dsS ds))] rest) : TrY P N w0 O0 ops Q e M (o :: rest) :=
  TrY.yield e' ho hgd hdd hdN hgv hx hv he hr (fun w hB => hY w (hg _ _ _ hz hB)) (fun W' hz' => hd _ _ hz') hc
theorem TrP.condF {c : Operand} {x y : Code} {b : Bool} (hc : opS e c = some (.d (.v (.bool b)))) (hb : b = false) (h : TrP P N w0 O0 e M y Q) : TrP P N w0 O0 e M (.cond c x y) Q := .cond hc (fun h' => by rw [hb] at h'; cases h') (fun _ => h)
theorem OpSem.see (n k : Nat) {v : Value} {s r : S} {ds : Ds} {mo : Option (Nat × Mo)} (hn : look e n = some (.d (.v v))) (hM : look M k = some (.fr (dsS ds))) (hp : (v, s) ∈ ds) (h : OpSem P B o ((n, s) :: e) M r mo) : OpSem P B o e M r mo := by
  intro O H a w hB hs hm K hK
  refine h O H a w hB (fun x hx s' hs' => ?_) hm K hK
  cases x with
  | tmp m =>
    rcases look_cons hs' with ⟨rfl, rfl⟩ | ⟨hne, hs'⟩
    · have h1 := rep_v (hs (.tmp m) hx _ hn)
      rw [h1]; exact hm k _ hM _ hp H
    · exact hs (.tmp m) hx _ hs'
  | const v => exact hs _ hx _ hs'
  | global g => exact hs _ hx _ hs'
  | func f => exact hs _ hx _ hs'
end
def okW (t : Tsk) (w i : Nat) : Prop := w &&& wdF (nth t.ops i).pre = wdF (nth t.ops i).pre
instance {t : Tsk} {w i : Nat} : Decidable (okW t w i) := by unfold okW; exact inferInstance
def toW (t : Tsk) (w i : Nat) : Nat := (w &&& (2 ^ 32 - 1 - wdF (nth t.ops i).del)) ||| wdF (nth t.ops i).add
def opT (t : Tsk) (w : Nat) : Nat → List Nat
  | 0 => []
  | k + 1 => if okW t w k then opT t w k ++ [k] else opT t w k
def opL (t : Tsk) (w : Nat) : List Nat := opT t w t.ops.length
abbrev stV (t : Tsk) (w i : Nat) : Value := .agg #[.int .i64 i, .int .i64 (nth t.ops i).cost, .int .u32 (toW t w i)]
theorem opT_mem {t : Tsk} {w i : Nat} : ∀ {k : Nat}, i ∈ opT t w k ↔ i < k ∧ okW t w i
  | 0 => by simp [opT]
  | k + 1 => by
    have ih := opT_mem (t := t) (w := w) (i := i) (k := k)
    unfold opT
    split
    · rename_i hk
      rw [List.mem_append, ih, List.mem_singleton]
      constructor
      · rintro (h | rfl)
        · exact ⟨by omega, h.2⟩
        · exact ⟨by omega, hk⟩
      · rintro ⟨h1, h2⟩
        by_cases e : i = k
        · exact .inr e
        · exact .inl ⟨by omega, h2⟩
    · rename_i hk
      rw [ih]
      constructor
      · rintro ⟨h1, h2⟩; exact ⟨by omega, h2⟩
      · rintro ⟨h1, h2⟩
        refine ⟨?_, h2⟩
        by_cases e : i = k
        · subst e; exact absurd h2 hk
        · omega
theorem opT_pre {t : Tsk} {w : Nat} {k : Nat} : ∀ {m : Nat}, k ≤ m → opT t w k <+: opT t w m := by
  intro m hm
  induction m with
  | zero => have : k = 0 := by omega
            subst this; exact List.prefix_rfl
  | succ m ih =>
    by_cases e : k = m + 1
    · subst e; exact List.prefix_rfl
    · refine (ih (by omega)).trans ?_
      show opT t w m <+: (if okW t w m then opT t w m ++ [m] else opT t w m)
      split
      · exact List.prefix_append _ _
      · exact List.prefix_rfl
theorem opT_t {t : Tsk} {w k : Nat} (h : okW t w k) : (opT t w (k + 1)).length = (opT t w k).length + 1 := by rw [opT, if_pos h]; simp
theorem opT_f {t : Tsk} {w k : Nat} (h : ¬ okW t w k) : opT t w (k + 1) = opT t w k := by rw [opT, if_neg h]
theorem opT_at {t : Tsk} {w k : Nat} (hk : k < t.ops.length) (h : okW t w k) : (opT t w k).length < (opL t w).length ∧ nth (opL t w) (opT t w k).length = k := by
  have h1 : opT t w (k + 1) = opT t w k ++ [k] := by rw [opT, if_pos h]
  obtain ⟨r, hr⟩ := opT_pre (t := t) (w := w) (k := k + 1) (m := t.ops.length) (by omega)
  have h2 : opL t w = opT t w k ++ (k :: r) := by unfold opL; rw [← hr, h1]; simp
  refine ⟨by rw [h2]; simp, ?_⟩
  rw [nth_eq (by rw [h2]; simp)]
  simp [h2]
end Go.Eng
end

section
namespace Go.Proofs.YtgophedpkiidkaaGreat
open Go.Eng
set_option maxRecDepth 10000
set_option maxHeartbeats 4000000
theorem space_Words_Steps_1_seq (t : Tsk) (hV : TskV t) (s : Nat) (hs : s < 2 ^ 24) {x1 x2 wv sv : Value} {O : Nat → Nat} {w : World} (hds : ∀ p, p ∈ ([(x1, .p [.v wv]), (x2, .p [.v (.int .u32 (s : Int))]), (wv, .p [.v (.int .u32 (wdF t.ini : Int)), .v (.int .u32 (wdF t.goal : Int)), .v sv]), (sv, .d (mssD t.ops))] : Ds) → ∀ H, RepS O H w p.1 p.2) : SeqD Tryz.prog 81 [x1, x2] ((opL t s).length) (fun k => stV t s (nth (opL t s) k)) O w := by
 have hol := hV.ops
 refine SeqD.of_body (ds := [(x1, .p [.v wv]), (x2, .p [.v (.int .u32 (s : Int))]), (wv, .p [.v (.int .u32 (wdF t.ini : Int)), .v (.int .u32 (wdF t.goal : Int)), .v sv]), (sv, .d (mssD t.ops))]) Tryz.func81 rfl rfl (by simp) hds (fun l Of Z W hg hd hY hz => ?_)
 refine TrP.seq ?_
 refine TrP.of (Tr.region ?_)
 refine TrOps.sem (OpSem.see (s := .p [.v wv]) 1 1001 rfl rfl (by simp) (OpSem.load1 rfl rfl vs66 rfl)) rfl rfl (by decide) ?_
 refine TrOps.sem (OpSem.see (s := .p [.v (.int .u32 (wdF t.ini : Int)), .v (.int .u32 (wdF t.goal : Int)), .v sv]) 6 1001 rfl rfl (by simp) (OpSem.nilp rfl rfl)) rfl rfl (by decide) ?_
 refine TrOps.sem (OpSem.fieldp rfl rfl fo126_2) rfl rfl (by decide) ?_
 refine TrOps.sem (OpSem.load1 rfl rfl vs124 rfl) rfl rfl (by decide) ?_
 refine TrOps.sem (OpSem.see (s := .d (mssD t.ops)) 9 1001 rfl rfl (by simp) (OpSem.lenL rfl rfl es124)) rfl rfl (by decide) ?_
 refine TrOps.sem (OpSem.move (.inl rfl) rfl) rfl rfl (by decide) ?_
 refine TrOps.nil ?_
 refine AtP.seq ?_
 refine TrP.block ?_
 refine TrP.loopY (fun i => i ≤ t.ops.length) (fun i => (opT t s i).length) (fun i => [(0, .d (.v (.func (.yield l) #[] #[]))), (1, .d (.v x1)), (2, .d (.v x2)), (9, .d (.v sv)), (10, I (t.ops.length)), (11, I (i))]) (fun i => t.ops.length - i) 0 hg hd (by omega) hz ?_ (fun _ => rfl) ?_
 ·exact .slot rfl (.refl _) <| .slot rfl (.refl _) <| .slot rfl (.refl _) <| .slot rfl (.refl _) <| .slot rfl (Le.of_eq (by simp)) <| .slot rfl (Le.of_eq (by simp)) <| .nil
 ·rintro i A hil hzk
  refine TrP.seq ?_
  refine TrP.of (Tr.region ?_)
  refine TrOps.sem (OpSem.bin rfl rfl rfl blss) rfl rfl (by decide) ?_
  refine TrOps.nil ?_
  refine AtP.seq ?_
  refine TrP.seq ?_
  refine TrP.cond rfl (fun c12 => ?_) (fun c12 => ?_)
  ·have hi : i < t.ops.length := by simpa using c12
   have ho := (hV.op i hi).1
   have p24 := wds24 hV ho.1
   have a24 := wds24 hV ho.2.1
   have d24 := wds24 hV ho.2.2.1
   refine TrP.of (Tr.skip ?_)
   refine AtP.seq ?_
   refine TrP.seq ?_
   refine TrP.block ?_
   refine TrP.seq ?_
   refine TrP.of (Tr.region ?_)
   refine TrOps.sem (OpSem.move (.inl rfl) rfl) rfl rfl (by decide) ?_
   refine TrOps.sem (OpSem.see (s := .d (mssD t.ops)) 9 1001 rfl rfl (by simp) (OpSem.idxL rfl rfl rfl es124 (by omega) (by omega))) rfl rfl (by decide) ?_
   refine TrOps.sem (OpSem.loadN rfl rfl vs150 (by first | decide | simp) rfl) rfl rfl (by decide) ?_
   refine TrOps.semM (OpSem.alloc 5 rfl zc150 rfl) rfl rfl (by decide) ?_
   refine TrOps.sem (OpSem.move (.inr rfl) rfl) rfl rfl (by decide) ?_
   refine TrOps.storeb rfl rfl rfl rfl rfl rfl rfl vs150 (by first | decide | simp) ?_
   refine TrOps.nil ?_
   refine AtP.seq ?_
   refine TrP.seq ?_
   refine TrP.regionY ?_
   refine TrY.preN 20 ?_
   simp only [List.take_succ_cons, List.take_zero, List.drop_succ_cons, List.drop_zero]
   refine TrOps.sem (OpSem.see (s := .p [.v (.int .u32 (s : Int))]) 2 1001 rfl rfl (by simp) (OpSem.load1 rfl rfl vs72 rfl)) rfl rfl (by decide) ?_
   refine TrOps.sem (OpSem.fieldr rfl rfl fo150_0) rfl rfl (by decide) ?_
   refine TrOps.sem (OpSem.loadb1 rfl rfl rfl vs72 rfl) rfl rfl (by decide) ?_
   refine TrOps.sem (OpSem.bin rfl rfl rfl (band32 (by omega) (by omega))) rfl rfl (by decide) ?_
   refine TrOps.sem (OpSem.fieldr rfl rfl fo150_0) rfl rfl (by decide) ?_
   refine TrOps.sem (OpSem.loadb1 rfl rfl rfl vs72 rfl) rfl rfl (by decide) ?_
   refine TrOps.sem (OpSem.bin rfl rfl rfl beqUU) rfl rfl (by decide) ?_
   refine TrOps.sem (OpSem.move (.inl rfl) rfl) rfl rfl (by decide) ?_
   refine TrOps.split (n := 23) rfl (fun c23 => ?_) (fun c23 => ?_)
   ·have hok : okW t s i := of_decide_eq_true c23
    obtain ⟨hlt, hat⟩ := opT_at hi hok
    refine TrOps.gT rfl rfl rfl rfl c23 ?_
    refine TrOps.sem (OpSem.move (.inl rfl) rfl) rfl rfl (by decide) ?_
    refine TrOps.gT rfl rfl rfl rfl c23 ?_
    refine TrOps.sem (OpSem.move (.inl rfl) rfl) rfl rfl (by decide) ?_
    refine TrOps.gT rfl rfl rfl rfl c23 ?_
    refine TrOps.sem (OpSem.fieldr rfl rfl fo150_3) rfl rfl (by decide) ?_
    refine TrOps.gT rfl rfl rfl rfl c23 ?_
    refine TrOps.sem (OpSem.loadb1 rfl rfl rfl vs3 rfl) rfl rfl (by decide) ?_
    refine TrOps.gT rfl rfl rfl rfl c23 ?_
    refine TrOps.sem (OpSem.see (s := .p [.v (.int .u32 (s : Int))]) 2 1001 rfl rfl (by simp) (OpSem.load1 rfl rfl vs72 rfl)) rfl rfl (by decide) ?_
    refine TrOps.gT rfl rfl rfl rfl c23 ?_
    refine TrOps.sem (OpSem.fieldr rfl rfl fo150_2) rfl rfl (by decide) ?_
    refine TrOps.gT rfl rfl rfl rfl c23 ?_
    refine TrOps.sem (OpSem.loadb1 rfl rfl rfl vs72 rfl) rfl rfl (by decide) ?_
    refine TrOps.gT rfl rfl rfl rfl c23 ?_
    refine TrOps.sem (OpSem.bin rfl rfl rfl (bandn32 (by omega) (by omega))) rfl rfl (by decide) ?_
    refine TrOps.gT rfl rfl rfl rfl c23 ?_
    refine TrOps.sem (OpSem.fieldr rfl rfl fo150_1) rfl rfl (by decide) ?_
    refine TrOps.gT rfl rfl rfl rfl c23 ?_
    refine TrOps.sem (OpSem.loadb1 rfl rfl rfl vs72 rfl) rfl rfl (by decide) ?_
    refine TrOps.gT rfl rfl rfl rfl c23 ?_
    refine TrOps.sem (OpSem.bin rfl rfl rfl (bor32 (Nat.lt_of_le_of_lt Nat.and_le_left (by omega)) (by omega))) rfl rfl (by decide) ?_
    refine TrOps.gT rfl rfl rfl rfl c23 ?_
    refine TrOps.sem (OpSem.build rfl rfl pl117 zc117 rfl rfl) rfl rfl (by decide) ?_
    refine TrOps.nil ?_
    refine At.yrest ?_
    refine TrY.gT rfl rfl rfl rfl c23 ?_
    refine TrY.yieldZ (v := stV t s i) [(0, .d (.v (.func (.yield l) #[] #[]))), (1, .d (.v x1)), (2, .d (.v x2)), (9, .d (.v sv)), (10, I (t.ops.length)), (11, I (i)), (23, Bo (decide (s &&& wdF (nth t.ops i).pre = wdF (nth t.ops i).pre)))] (fun A h => by have := hY _ A hlt h; rwa [hat] at this) hg hd hzk rfl rfl rfl (by decide) rfl rfl (fun H => rfl) (.slot rfl (.refl _) <| .slot rfl (.refl _) <| .slot rfl (.refl _) <| .slot rfl (.refl _) <| .slot rfl (.refl _) <| .slot rfl (.refl _) <| .slot rfl (.refl _) <| .nil) rfl (fun W2 hz2 => ?_)
    refine TrY.fin ?_
    refine TrOps.gT rfl rfl rfl rfl c23 ?_
    refine TrOps.sem (OpSem.not rfl rfl) rfl rfl (by decide) ?_
    refine TrOps.sem (OpSem.pickT rfl rfl c23 rfl) rfl rfl (by decide) ?_
    refine TrOps.nil ?_
    refine At.yend ?_
    refine AtP.seq ?_
    refine TrP.cond rfl (fun c38 => ?_) (fun c38 => ?_)
    ·exact absurd c38 (by simp)
    ·refine TrP.of (Tr.skip ?_)
     refine At.block_normal ?_
     refine AtP.seq ?_
     refine TrP.of (Tr.region ?_)
     refine TrOps.sem (OpSem.bin rfl rfl rfl (badd (by omega) (by omega))) rfl rfl (by decide) ?_
     refine TrOps.sem (OpSem.move (.inl rfl) rfl) rfl rfl (by decide) ?_
     refine TrOps.nil ?_
     refine At.againY (i + 1) hg hd (by omega) (by rw [opT_t hok]; exact hz2) (by omega) rfl ?_
     exact .slot rfl (.refl _) <| .slot rfl (.refl _) <| .slot rfl (.refl _) <| .slot rfl (.refl _) <| .slot rfl (.refl _) <| .slot rfl (Le.of_eq (by simp)) <| .nil
   ·have hno : ¬ okW t s i := of_decide_eq_false c23
    refine TrOps.gF rfl rfl rfl rfl c23 rfl (by decide) ?_
    refine TrOps.gF rfl rfl rfl rfl c23 rfl (by decide) ?_
    refine TrOps.gF rfl rfl rfl rfl c23 rfl (by decide) ?_
    refine TrOps.gF rfl rfl rfl rfl c23 rfl (by decide) ?_
    refine TrOps.gF rfl rfl rfl rfl c23 rfl (by decide) ?_
    refine TrOps.gF rfl rfl rfl rfl c23 rfl (by decide) ?_
    refine TrOps.gF rfl rfl rfl rfl c23 rfl (by decide) ?_
    refine TrOps.gF rfl rfl rfl rfl c23 rfl (by decide) ?_
    refine TrOps.gF rfl rfl rfl rfl c23 rfl (by decide) ?_
    refine TrOps.gF rfl rfl rfl rfl c23 rfl (by decide) ?_
    refine TrOps.gF rfl rfl rfl rfl c23 rfl (by decide) ?_
    refine TrOps.gF rfl rfl rfl rfl c23 rfl (by decide) ?_
    refine TrOps.nil ?_
    refine At.yrest ?_
    refine TrY.fin ?_
    refine TrOps.gF rfl rfl rfl rfl c23 rfl (by decide) ?_
    refine TrOps.gF rfl rfl rfl rfl c23 rfl (by decide) ?_
    refine TrOps.sem (OpSem.pickF rfl rfl c23 rfl) rfl rfl (by decide) ?_
    refine TrOps.nil ?_
    refine At.yend ?_
    refine AtP.seq ?_
    refine TrP.condF rfl rfl ?_
    refine TrP.of (Tr.skip ?_)
    refine At.block_normal ?_
    refine AtP.seq ?_
    refine TrP.of (Tr.region ?_)
    refine TrOps.sem (OpSem.bin rfl rfl rfl (badd (by omega) (by omega))) rfl rfl (by decide) ?_
    refine TrOps.sem (OpSem.move (.inl rfl) rfl) rfl rfl (by decide) ?_
    refine TrOps.nil ?_
    refine At.againY (i + 1) hg hd (by omega) (by rw [opT_f hno]; exact hzk) (by omega) rfl ?_
    exact .slot rfl (.refl _) <| .slot rfl (.refl _) <| .slot rfl (.refl _) <| .slot rfl (.refl _) <| .slot rfl (.refl _) <| .slot rfl (Le.of_eq (by simp)) <| .nil
  ·have hi : i = t.ops.length := by simp at c12; omega
   refine TrP.of (Tr.exit ?_)
   refine At.pass_exit ?_
   refine At.pass_exit ?_
   refine At.block_same ?_
   exact AtP.retY (.inr rfl) rfl hg (by subst hi; exact hzk)
theorem space_Words_Steps_M {bw ow s : Nat} : DoesM Tryz.prog 54 [ptr bw ow, .int .u32 ((s : Int))] [] 0 (fo []) (fun v F' ds' => ∃ x1 x2, v = .func (.func 81) #[] #[x1, x2] ∧ F' = fo [] ∧ ds' = [(x1, .p [.v (ptr bw ow)]), (x2, .p [.v (.int .u32 (s : Int))])]) := by
 refine DoesM.of_body Tryz.func54 rfl rfl (by simp) Tryz.call54 (.inl fun i h => absurd h (Nat.not_lt_zero i)) (fun Oc W => ?_); refine .g <| .r <| .bx 2 ?_; refine .bx 3 ?_; refine .a ?_; refine .sq <| .g <| .freezeR 2 rfl rfl ?_; refine .freezeR 3 rfl rfl ?_; refine .r <| .rawS 2 7001 rfl rfl (fun x1 => ?_); refine .rawS 3 7002 rfl rfl (fun x2 => ?_); refine .x (OpSem.mkFw (vs := [x1, x2]) rfl rfl (fun H => rfl)) ?_; refine .a ?_; exact .sq <| .t <| .retM (F' := fo []) (ds' := [(x1, .p [.v (ptr bw ow)]), (x2, .p [.v (.int .u32 (s : Int))])]) (v := .func (.func 81) #[] #[x1, x2]) (.inl rfl) rfl (.tmp rfl <| .nil) (fun H => rfl) (.nil) (.cons 7001 rfl (List.mem_singleton.2 rfl) <| .cons 7002 rfl (List.mem_singleton.2 rfl) .nil) rfl rfl (⟨_, _, rfl, rfl, rfl⟩)
end Go.Proofs.YtgophedpkiidkaaGreat
end

section
namespace Go.Eng
section
variable {P : Program} {N : Nat} {w0 : World} {O0 : Nat → Nat} {ops : Array Oper} {Q : Post} {e : Env} {M : Mem} {rest : List Oper} {B : Nat} {o : Oper} {s : S} {c : Code}
theorem TrOps.ownNil {n : Nat} (h k T : Nat) (hn : look e n = some (.d (.v (.slice none 0 0)))) (hc : TrOps P N w0 O0 ops Q ((n, .o h) :: kill h e) ((h, .own k T []) :: killM h M) rest) : TrOps P N w0 O0 ops Q e M rest := by
 intro O H a w hst
 obtain ⟨x, hx, hr⟩ := hst.slots _ _ hn
 have hxb : x = .slice none 0 0 := by
  cases hr with
  | d _ _ q => cases q with
   | v _ => rfl
 subst hxb
 obtain ⟨H', hH'⟩ : ∃ H' : Nat → Value, H' = fun m => if m = h then (.slice none 0 0 : Value) else H m := ⟨_, rfl⟩
 have hh : H' h = .slice none 0 0 := by rw [hH']; simp
 have hk : Keep none (some h) O H w O H' w := ⟨fun _ _ => rfl, fun _ _ _ => rfl, fun n hn => by rw [hH']; simp; intro e; subst e; exact (hn rfl).elim⟩
 refine hc O H' a w ⟨hst.df, hst.sz, hst.bl, hst.lab, fun m s hs => ?_, fun m' m hm => ?_⟩
 ·rcases look_cons hs with ⟨rfl, rfl⟩ | ⟨_, hs⟩
  ·refine ⟨_, hx, ?_⟩
   have := RepS.o (O := O) (H := H') (w := w) h (by rw [hh]; rfl)
   rwa [hh] at this
  ·obtain ⟨s', hs', hor⟩ := look_kill hs
   obtain ⟨y, hy, hr⟩ := hst.slots _ s' hs'
   rcases hor with ⟨hok, rfl⟩ | rfl
   ·exact ⟨y, hy, hr.mono hk 9 (fun h he => by cases he; exact hok) (.inr (by omega))⟩
   ·exact ⟨y, hy, .u y⟩
 ·rcases look_cons hm with ⟨rfl, rfl⟩ | ⟨hne, hm⟩
  ·exact .inl ⟨hh, rfl⟩
  ·obtain ⟨m2, hm2, hor⟩ := look_killM hm
   rcases hor with rfl | ⟨hn, rfl⟩
   ·trivial
   ·exact ((hst.mem m' m2 hm2).kill (h := h)).mono hk (by simp) (by simp; omega) 9 (fun h1 he => by cases he; exact Mo.kill_ok _ m2) (.inr (by omega))
theorem DsIn.rep {O : Nat → Nat} {H : Nat → Value} {a : Act} {w : World} {ds : Ds} (hst : St N w0 O0 e M O H a w) (hd : DsIn M ds) : ∀ p, p ∈ ds → ∀ H', RepS O H' w p.1 p.2 := fun p hp H' => by
 obtain ⟨k, ds0, h1, h2⟩ := hd p hp
 exact hst.mem k _ h1 p h2 H'
theorem TrOps.asG0 (n : Nat) (hn : look e n = some (.d (.v (.agg #[])))) (hc : TrOps P N w0 O0 ops Q ((n, .g []) :: e) M rest) : TrOps P N w0 O0 ops Q e M rest := by
 intro O H a w hst
 refine hc O H a w ⟨hst.df, hst.sz, hst.bl, hst.lab, fun m s' hs => ?_, hst.mem⟩
 rcases look_cons hs with ⟨rfl, rfl⟩ | ⟨_, hs⟩
 ·obtain ⟨x, hx, hr⟩ := hst.slots _ _ hn
  exact ⟨x, hx, by rw [rep_v hr]; exact .g [] [] rfl (fun x h => by cases h) (fun i x s h => by simp at h)⟩
 ·exact hst.slots m s' hs
theorem St.ownPo {O : Nat → Nat} {H : Nat → Value} {a : Act} {w : World} (h n : Nat) {T : Nat} {vs : List Value} (hn : look e n = some (.o h)) (hM : look M h = some (.own 1 T (vs.map fun v => [D.v v]))) (hne : vs ≠ []) (hst : St N w0 O0 e M O H a w) :
  ∃ b cap tl, PlOk (some (b, cap, tl)) 1 vs.length vs ∧ St N w0 O0 ((n, .d (.v (slc b vs.length cap))) :: e) ((h, poM (oneO b (.c T (vs ++ tl)))) :: M) O H a w := by
 rcases hst.mem h _ hM with ⟨_, h0⟩ | ⟨b, cap, xs, hH, hB, hO, hb, hlc, hcm, hsz, hw, hcc⟩
 ·exact absurd (by simpa using h0) hne
 ·simp only [List.length_map] at hH hlc
  have hcell : ∀ i v, vs[i]? = some v → xs[i]? = some v := fun i v hi => by
   obtain ⟨x, hx, hr, _⟩ := hcc i [D.v v] 0 (.v v) (by rw [List.getElem?_map, hi]; rfl) rfl
   cases hr; simpa using hx
  have hxs : xs.toList = vs ++ xs.toList.drop vs.length := by
   apply List.ext_getElem?
   intro i
   by_cases hi : i < vs.length
   ·rw [List.getElem?_append_left hi, Array.getElem?_toList]
    rw [List.getElem?_eq_getElem hi]
    exact hcell i _ (List.getElem?_eq_getElem hi)
   ·rw [List.getElem?_append_right (by omega), List.getElem?_drop]
    congr 1; omega
  refine ⟨b, cap, xs.toList.drop vs.length, ⟨fun e => (by cases e), by omega, fun b' cap' tl' e => ?_⟩, hst.df, hst.sz, hst.bl, hst.lab, fun m s' hs => ?_, fun m mo hm => ?_⟩
  ·cases e
   rw [← hxs]
   exact ⟨by simpa using hsz, hlc, hcm⟩
  ·rcases look_cons hs with ⟨rfl, rfl⟩ | ⟨_, hs⟩
   ·obtain ⟨x, hx, hr⟩ := hst.slots _ _ hn
    refine ⟨x, hx, ?_⟩
    cases hr with
    | o _ h1 => rw [hH]; exact .d _ _ (.v _)
   ·exact hst.slots m s' hs
  ·rcases look_cons hm with ⟨rfl, rfl⟩ | ⟨_, hm⟩
   ·intro b' x hF
    obtain ⟨rfl, rfl⟩ := oneO_ne hF
    refine ⟨hB, hO, ?_⟩
    show w.heap[b']? = _
    rw [hb, ← hxs]
   ·exact hst.mem m mo hm
theorem TrOps.ownPo (h n : Nat) {T : Nat} {vs : List Value} {rows : List (List D)} (hn : look e n = some (.o h)) (hM : look M h = some (.own 1 T rows)) (hrw : rows = vs.map fun v => [D.v v]) (hne : vs ≠ [])
  (hc : ∀ b cap tl, PlOk (some (b, cap, tl)) 1 vs.length vs → TrOps P N w0 O0 ops Q ((n, .d (.v (slc b vs.length cap))) :: e) ((h, poM (oneO b (.c T (vs ++ tl)))) :: M) rest) : TrOps P N w0 O0 ops Q e M rest := by
 intro O H a w hst
 subst hrw
 obtain ⟨b, cap, tl, h1, h2⟩ := hst.ownPo h n hn hM hne
 exact hc b cap tl h1 O H a w h2
theorem TrOps.poOwn (h n : Nat) {b cap T : Nat} {vs tl : List Value} (hn : look e n = some (.d (.v (slc b vs.length cap)))) (hM : look M h = some (poM (oneO b (.c T (vs ++ tl))))) (hp : PlOk (some (b, cap, tl)) 1 vs.length vs) (h1 : ∀ v, v ∈ vs → v.oneCell' = true)
  (hc : TrOps P N w0 O0 ops Q ((n, .o h) :: kill h e) ((h, .own 1 T (vs.map fun v => [D.v v])) :: killM h M) rest) : TrOps P N w0 O0 ops Q e M rest := by
 intro O H a w hst
 obtain ⟨hB, hO, hb⟩ := hst.mem h _ hM b _ oneO_s
 obtain ⟨p1, p2, p3⟩ := hp.s b cap tl rfl
 obtain ⟨H', hH'⟩ : ∃ H' : Nat → Value, H' = fun m => if m = h then slc b vs.length cap else H m := ⟨_, rfl⟩
 have hHh : H' h = slc b vs.length cap := by rw [hH']; simp
 have hk : Keep none (some h) O H w O H' w := ⟨fun _ _ => rfl, fun _ _ _ => rfl, fun m hm => by rw [hH']; simp only []; rw [if_neg (fun e => hm (by rw [e]))]⟩
 refine hc O H' a w ⟨hst.df, hst.sz, hst.bl, hst.lab, fun m s' hs => ?_, fun m mo hm => ?_⟩
 ·rcases look_cons hs with ⟨rfl, rfl⟩ | ⟨_, hs⟩
  ·obtain ⟨x, hx, hr⟩ := hst.slots _ _ hn
   refine ⟨x, hx, ?_⟩
   rw [rep_v hr, ← hHh]; exact .o h (by rw [hHh]; rfl)
  ·obtain ⟨s2, hs2, hor⟩ := look_kill hs
   obtain ⟨y, hy, hr⟩ := hst.slots m s2 hs2
   rcases hor with ⟨hok, rfl⟩ | rfl
   ·exact ⟨y, hy, hr.mono hk 9 (fun h he => by cases he; exact hok) (.inr (by omega))⟩
   ·exact ⟨y, hy, .u y⟩
 ·rcases look_cons hm with ⟨rfl, rfl⟩ | ⟨hne, hm⟩
  ·refine .inr ⟨b, cap, (vs ++ tl).toArray, by rw [hHh]; simp, hB, hO, hb, by simpa using p2, p3, by simpa using p1, fun r hr => ?_, fun i r j d hi hj => ?_⟩
   ·obtain ⟨v, _, rfl⟩ := List.mem_map.1 hr; rfl
   ·rw [List.getElem?_map, Option.map_eq_some_iff] at hi
    obtain ⟨v, hv, rfl⟩ := hi
    have hj0 : j = 0 := by have := (List.getElem?_eq_some_iff.1 hj).1; simp at this; omega
    subst hj0
    simp at hj
    subst hj
    refine ⟨v, ?_, .v v, h1 v (List.mem_of_getElem? hv)⟩
    have hlt := (List.getElem?_eq_some_iff.1 hv).1
    simp only [Nat.mul_one, Nat.add_zero, List.getElem?_toArray]
    rw [List.getElem?_append_left hlt]; exact hv
  ·obtain ⟨m', hm', hor⟩ := look_killM hm
   rcases hor with rfl | ⟨hn2, rfl⟩
   ·trivial
   ·exact ((hst.mem m m' hm').kill (h := h)).mono hk (by simp) (by simp; omega) 9 (fun h1 he => by cases he; exact Mo.kill_ok _ m') (.inr (by omega))
theorem TrOps.rawPL (n k : Nat) {cs : List D} {d : D} (hn : look e n = some (.p (cs ++ [d]))) (hc : ∀ (b off : Nat) (v : Value), TrOps P N w0 O0 ops Q ((n, .d (.v (ptr b off))) :: e) ((k, .fr (dsS [(ptr b off, .p (cs ++ [.v v])), (v, .d d)])) :: M) rest) : TrOps P N w0 O0 ops Q e M rest := by
 intro O H a w hst
 obtain ⟨x, hx, hr⟩ := hst.slots _ _ hn
 cases hr with
 | p b off _ y hO hy hr =>
  refine hc b off (y cs.length) O H a w ⟨hst.df, hst.sz, hst.bl, hst.lab, fun m s' hs' => ?_, fun m mo hm => ?_⟩
  ·rcases look_cons hs' with ⟨rfl, rfl⟩ | ⟨_, hs'⟩
   ·exact ⟨_, hx, .d _ _ (.v _)⟩
   ·exact hst.slots m s' hs'
  ·rcases look_cons hm with ⟨rfl, rfl⟩ | ⟨_, hm⟩
   ·have hlt : ∀ (j : Nat) (d' : D), (cs ++ [D.v (y cs.length)])[j]? = some d' → ∃ d2, (cs ++ [d])[j]? = some d2 := fun j d' hj => by
     have := (List.getElem?_eq_some_iff.1 hj).1
     exact ⟨_, List.getElem?_eq_getElem (by simpa using this)⟩
    intro p hp H'
    simp only [List.mem_cons, List.not_mem_nil, or_false] at hp
    rcases hp with rfl | rfl
    ·refine .p b off _ y (fun j d' hj => ?_) (fun j d' hj => ?_) (fun j d' hj => ?_)
     ·obtain ⟨d2, h2⟩ := hlt j d' hj; exact hO j d2 h2
     ·obtain ⟨d2, h2⟩ := hlt j d' hj; exact hy j d2 h2
     ·by_cases hjl : j < cs.length
      ·rw [List.getElem?_append_left hjl] at hj
       exact hr j d' (by rw [List.getElem?_append_left hjl]; exact hj)
      ·have hj2 : j = cs.length := by have := (List.getElem?_eq_some_iff.1 hj).1; simp at this; omega
       subst hj2
       simp at hj
       subst hj; exact .v _
    ·exact .d _ _ (hr cs.length d (by simp))
   ·exact hst.mem m mo hm
end
end Go.Eng
end

section
namespace Go.Eng
abbrev u32V (x : Nat) : Value := u32 (x : Int)
abbrev seeM (l : List Nat) : List (Int × Value) := l.map fun s : Nat => ((s : Int), Value.agg #[])
theorem lookI_see {n : Nat} : ∀ {l : List Nat}, lookI (seeM l) (n : Int) = if n ∈ l then some (.agg #[]) else none
 | [] => by simp [lookI]
 | a :: l => by
  rw [show seeM (a :: l) = ((a : Int), Value.agg #[]) :: seeM l from rfl, lookI_cons, lookI_see (l := l)]
  by_cases h : a = n
  ·subst h; simp
  ·rw [if_neg (by simp; omega)]
   by_cases h2 : n ∈ l
   ·simp [h2]
   ·rw [if_neg h2, if_neg]
    intro h3
    rcases List.mem_cons.1 h3 with h3 | h3
    ·exact h h3.symm
    ·exact h2 h3
theorem putI_see {n : Nat} : ∀ {l : List Nat}, n ∉ l → putI (seeM l) (n : Int) (.agg #[]) = seeM (l ++ [n])
 | [], _ => rfl
 | a :: l, h => by
  rw [show seeM (a :: l) = ((a : Int), Value.agg #[]) :: seeM l from rfl, putI, if_neg (by simp; intro e; exact h (by simp [show a = n by omega])), putI_see (l := l) fun hm => h (List.mem_cons_of_mem _ hm)]
  rfl
def alR (t : Tsk) (s : Nat) (x : List Nat × List Nat) : Nat → List Nat × List Nat
 | 0 => x
 | k + 1 => if toW t s (nth (opL t s) k) ∈ (alR t s x k).2 then alR t s x k else ((alR t s x k).1 ++ [toW t s (nth (opL t s) k)], (alR t s x k).2 ++ [toW t s (nth (opL t s) k)])
theorem alR_t {t : Tsk} {s : Nat} {x : List Nat × List Nat} {k : Nat} (h : toW t s (nth (opL t s) k) ∈ (alR t s x k).2) : alR t s x (k + 1) = alR t s x k := by rw [alR, if_pos h]
theorem alR_f {t : Tsk} {s : Nat} {x : List Nat × List Nat} {k : Nat} (h : toW t s (nth (opL t s) k) ∉ (alR t s x k).2) : alR t s x (k + 1) = ((alR t s x k).1 ++ [toW t s (nth (opL t s) k)], (alR t s x k).2 ++ [toW t s (nth (opL t s) k)]) := by rw [alR, if_neg h]
inductive RcW (t : Tsk) : Nat → Prop
 | ini : RcW t (wdF t.ini)
 | step {s i : Nat} (h : RcW t s) (hi : i < t.ops.length) (ho : okW t s i) : RcW t (toW t s i)
theorem toW_lt {t : Tsk} (hV : TskV t) {s i : Nat} (hs : s < 2 ^ 24) (hi : i < t.ops.length) : toW t s i < 2 ^ 24 :=
 Nat.or_lt_two_pow (Nat.lt_of_le_of_lt Nat.and_le_left hs) (wds24 hV (hV.op i hi).1.2.1)
theorem RcW.lt {t : Tsk} (hV : TskV t) {s : Nat} (h : RcW t s) : s < 2 ^ 24 := by
 induction h with
 | ini => exact wds24 hV hV.ini
 | step h hi ho ih => exact toW_lt hV ih hi
structure AlI (t : Tsk) (st se out : List Nat) : Prop where
 nd : (out ++ st).Nodup
 mm : ∀ s, s ∈ se ↔ s ∈ out ++ st
 len : se.length = out.length + st.length
 ini : wdF t.ini ∈ se
 rc : ∀ s, s ∈ se → RcW t s
 cl : ∀ s, s ∈ out → ∀ i, i < t.ops.length → okW t s i → toW t s i ∈ se
structure AlW (t : Tsk) (l : List Nat) : Prop where
 nd : l.Nodup
 ini : wdF t.ini ∈ l
 rc : ∀ s, s ∈ l → RcW t s
 cl : ∀ s, s ∈ l → ∀ i, i < t.ops.length → okW t s i → toW t s i ∈ l
def BigW (t : Tsk) : Prop := ∃ l : List Nat, l.Nodup ∧ 2000 < l.length ∧ ∀ s, s ∈ l → RcW t s
theorem AlI.big {t : Tsk} {st se out : List Nat} (h : AlI t st se out) (hl : 2000 < se.length) : BigW t := ⟨out ++ st, h.nd, by rw [List.length_append]; have := h.len; omega, fun s hs => h.rc s ((h.mm s).2 hs)⟩
theorem AlW.iff {t : Tsk} {l : List Nat} (h : AlW t l) {s : Nat} : s ∈ l ↔ RcW t s := by
 refine ⟨h.rc s, fun hr => ?_⟩
 induction hr with
 | ini => exact h.ini
 | step _ hi ho ih => exact h.cl _ ih _ hi ho
theorem AlW.small {t : Tsk} {l : List Nat} (h : AlW t l) (hl : l.length ≤ 2000) : ¬ BigW t := fun ⟨l', h1, h2, h3⟩ => by
 have := List.Nodup.length_le_of_subset h1 (fun s hs => h.iff.2 (h3 s hs))
 omega
theorem AlI.start {t : Tsk} : AlI t [wdF t.ini] [wdF t.ini] [] := ⟨by simp, by simp, by simp, by simp, fun s hs => by simp at hs; subst hs; exact .ini, fun s hs => by cases hs⟩
theorem AlI.fin {t : Tsk} {se out : List Nat} (h : AlI t [] se out) : AlW t out :=
 ⟨by simpa using h.nd, by have := (h.mm _).1 h.ini; simpa using this, fun s hs => h.rc s ((h.mm s).2 (by simpa using hs)), fun s hs i hi ho => by have := (h.mm _).1 (h.cl s hs i hi ho); simpa using this⟩
theorem nodup_snoc {l : List Nat} {x : Nat} : (l ++ [x]).Nodup ↔ l.Nodup ∧ x ∉ l := by
 rw [List.nodup_append]
 constructor
 ·rintro ⟨h1, _, h3⟩; exact ⟨h1, fun hx => h3 x hx x (by simp) rfl⟩
 ·rintro ⟨h1, h2⟩; exact ⟨h1, by simp, fun a ha b hb e => by simp at hb; subst hb; subst e; exact h2 ha⟩
theorem AlI.next {t : Tsk} {st se out : List Nat} {s : Nat} (h : AlI t (st ++ [s]) se out) : ∀ {k : Nat}, k ≤ (opL t s).length →
  (out ++ [s] ++ (alR t s (st, se) k).1).Nodup ∧ (∀ x, x ∈ (alR t s (st, se) k).2 ↔ x ∈ out ++ [s] ++ (alR t s (st, se) k).1) ∧ (alR t s (st, se) k).2.length = out.length + 1 + (alR t s (st, se) k).1.length ∧ (∀ x, x ∈ se → x ∈ (alR t s (st, se) k).2) ∧
   (∀ x, x ∈ (alR t s (st, se) k).2 → RcW t x) ∧ (∀ j : Nat, j < k → toW t s (nth (opL t s) j) ∈ (alR t s (st, se) k).2) ∧ (alR t s (st, se) k).2.length ≤ se.length + k := by
 intro k
 induction k with
 | zero =>
  intro _
  have hp : (out ++ (st ++ [s])).Perm (out ++ [s] ++ st) := by
   rw [List.append_assoc]; exact List.Perm.append_left _ List.perm_append_comm
  refine ⟨(hp.nodup_iff).1 h.nd, fun x => (h.mm x).trans hp.mem_iff, ?_, fun x hx => hx, h.rc, fun j hj => by omega, Nat.le_refl _⟩
  have := h.len
  simp only [alR, List.length_append, List.length_cons, List.length_nil] at this ⊢
  omega
 | succ k ih =>
  intro hk
  obtain ⟨h1, h2, h3, h4, h5, h6, h7⟩ := ih (by omega)
  have hm : nth (opL t s) k ∈ opL t s := nth_mem (by omega) (by omega)
  obtain ⟨hi, ho⟩ := opT_mem.1 hm
  by_cases hin : toW t s (nth (opL t s) k) ∈ (alR t s (st, se) k).2
  ·rw [alR_t hin]
   refine ⟨h1, h2, h3, h4, h5, fun j hj => ?_, by omega⟩
   by_cases e : j = k
   ·subst e; exact hin
   ·exact h6 j (by omega)
  ·rw [alR_f hin]
   refine ⟨?_, fun x => ?_, ?_, fun x hx => by simp [h4 x hx], fun x hx => ?_, fun j hj => ?_, ?_⟩
   ·show (out ++ [s] ++ ((alR t s (st, se) k).1 ++ [toW t s (nth (opL t s) k)])).Nodup
    rw [← List.append_assoc, nodup_snoc]
    exact ⟨h1, fun hx => hin ((h2 _).2 hx)⟩
   ·show x ∈ (alR t s (st, se) k).2 ++ [_] ↔ x ∈ out ++ [s] ++ ((alR t s (st, se) k).1 ++ [_])
    rw [← List.append_assoc, List.mem_append, List.mem_append (s := out ++ [s] ++ (alR t s (st, se) k).1), h2 x]
   ·simp only [List.length_append, List.length_cons, List.length_nil]; omega
   ·rcases List.mem_append.1 hx with hx | hx
    ·exact h5 x hx
    ·simp at hx; subst hx
     refine .step (h.rc s ((h.mm s).2 (by simp))) hi ho
   ·by_cases e : j = k
    ·subst e; simp
    ·exact List.mem_append.2 (.inl (h6 j (by omega)))
   ·simp only [List.length_append, List.length_cons, List.length_nil]; omega
theorem AlI.round {t : Tsk} {st se out : List Nat} {s : Nat} (h : AlI t (st ++ [s]) se out) : AlI t (alR t s (st, se) (opL t s).length).1 (alR t s (st, se) (opL t s).length).2 (out ++ [s]) := by
 obtain ⟨h1, h2, h3, h4, h5, h6, _⟩ := h.next (Nat.le_refl _)
 refine ⟨h1, h2, by simpa using h3, h4 _ h.ini, h5, fun x hx i hi ho => ?_⟩
 rcases List.mem_append.1 hx with hx | hx
 ·exact h4 _ (h.cl x hx i hi ho)
 ·simp at hx; subst hx
  have hm : i ∈ opL t x := opT_mem.2 ⟨hi, ho⟩
  obtain ⟨j, hj⟩ := List.getElem?_of_mem hm
  have hlt := (List.getElem?_eq_some_iff.1 hj).1
  have e : nth (opL t x) (j : Int) = i := by rw [nth_eq hlt]; exact (List.getElem?_eq_some_iff.1 hj).2
  have := h6 j hlt
  rwa [e] at this
theorem snoc_of {l : List Nat} (h : l ≠ []) : ∃ l' x, l = l' ++ [x] := ⟨l.dropLast, l.getLast h, (List.dropLast_concat_getLast h).symm⟩
theorem stk_get {l : List Nat} {x i : Nat} (h : i = l.length) : ((l ++ [x]).map u32C)[i]? = some (u32C x) := by subst h; simp
theorem rowsU {l : List Nat} : l.map u32C = (l.map u32V).map fun v => [D.v v] := by simp
theorem see_v {l : List Nat} {n : Nat} : (lookI (seeM l) (n : Int)).getD (.agg #[]) = .agg #[] := by rw [lookI_see]; split <;> rfl
theorem see_f {l : List Nat} {n : Nat} : (lookI (seeM l) (n : Int)).isSome = decide (n ∈ l) := by rw [lookI_see]; split <;> simp [*]
theorem stV_rep {t : Tsk} {s i : Nat} {O : Nat → Nat} {H : Nat → Value} {w : World} : RepS O H w (stV t s i) (.g [I (i : Int), I (nth t.ops i).cost, .d (.v (.int .u32 (toW t s i : Int)))]) := by
 refine .g [_, _, _] _ rfl (fun x hx => ?_) (fun j x s' hx hs => ?_)
 ·simp only [List.mem_cons, List.not_mem_nil, or_false] at hx
  rcases hx with rfl | rfl | rfl <;> rfl
 ·rcases j with _ | _ | _ | j
  ·simp at hx hs; subst hx hs; exact .d _ _ (.v _)
  ·simp at hx hs; subst hx hs; exact .d _ _ (.v _)
  ·simp at hx hs; subst hx hs; exact .d _ _ (.v _)
  ·simp at hx
theorem opT_len {t : Tsk} {s k : Nat} : (opT t s k).length ≤ k := by
 induction k with
 | zero => simp [opT]
 | succ k ih =>
  rw [opT]; split
  ·simp; omega
  ·omega
theorem AlW.perm {t : Tsk} {l l' : List Nat} (h : AlW t l) (hp : l'.Perm l) : AlW t l' :=
 ⟨hp.nodup_iff.2 h.nd, hp.mem_iff.2 h.ini, fun s hs => h.rc s (hp.mem_iff.1 hs), fun s hs i hi ho => hp.mem_iff.2 (h.cl s (hp.mem_iff.1 hs) i hi ho)⟩
theorem plain_u32' (l : List Nat) : plainB (l.map u32C) = true := by simp [plainB]
def AlR (t : Tsk) (v : Value) (F' : Res) : Prop := ∃ (lv : Value) (ok : Bool), v = .tuple #[lv, .bool ok] ∧ (ok = true → ∃ b cap tl l, lv = slc b (l.map u32V).length cap ∧ PlOk (some (b, cap, tl)) 1 (l.map u32V).length (l.map u32V) ∧ F' 0 = oneO b (.c 72 (l.map u32V ++ tl)) ∧ AlW t l ∧ l.length ≤ 2000) ∧ (ok = false → lv = .slice none 0 0 ∧ BigW t)
section
variable {P : Program} {N : Nat} {w0 : World} {O0 : Nat → Nat} {ops : Array Oper} {Q : Post} {e : Env} {M : Mem} {rest : List Oper}
theorem TrOps.asT (n : Nat) {vs : List Value} (hn : look e n = some (.d (.v (.tuple vs.toArray)))) (hc : TrOps P N w0 O0 ops Q ((n, .t (vs.map fun v => S.d (.v v))) :: e) M rest) : TrOps P N w0 O0 ops Q e M rest := by
 intro O H a w hst
 refine hc O H a w ⟨hst.df, hst.sz, hst.bl, hst.lab, fun m s' hs => ?_, hst.mem⟩
 rcases look_cons hs with ⟨rfl, rfl⟩ | ⟨_, hs⟩
 ·obtain ⟨x, hx, hr⟩ := hst.slots _ _ hn
  refine ⟨x, hx, ?_⟩
  rw [rep_v hr]
  refine .t vs _ (by simp) (fun i x s h1 h2 => ?_)
  rw [List.getElem?_map, h1] at h2
  simp at h2; subst h2; exact .d _ _ (.v _)
 ·exact hst.slots m s' hs
end
end Go.Eng
end

section
namespace Go.Proofs.YtgophedpkiidkaaGreat
open Go.Eng
set_option maxRecDepth 10000
set_option maxHeartbeats 4000000
theorem space_All_uint32_M (t : Tsk) (hV : TskV t) {bw ow : Nat} {sv : Value} : DoesM Tryz.prog 46 [.iface 66 (ptr bw ow)] [(ptr bw ow, .p [.v (.int .u32 (wdF t.ini : Int)), .v (.int .u32 (wdF t.goal : Int)), .v sv]), (sv, .d (mssD t.ops))] 1 (fo []) (fun v F' ds' => ds' = [] ∧ ((∃ b cap tl l, v = .tuple #[slc b (l.map u32V).length cap, .bool true] ∧ PlOk (some (b, cap, tl)) 1 (l.map u32V).length (l.map u32V) ∧ F' = fo [oneO b (.c 72 (l.map u32V ++ tl))] ∧ AlW t l ∧ l.length ≤ 2000) ∨ (v = .tuple #[.slice none 0 0, .bool false] ∧ F' = fo [] ∧ BigW t))) := by
 have hol := hV.ops
 refine DoesM.of_bodyD Tryz.func46 rfl rfl (by simp) Tryz.call46 (.inl fun i h => by simp [fo, noO]) (fun Oc W => ?_)
 refine TrD.seq ?_
 refine TrD.region ?_
 refine TrOps.sem (OpSem.move (.inr rfl) rfl) rfl rfl (by decide) ?_
 refine TrOps.sem (OpSem.move (.inr rfl) rfl) rfl rfl (by decide) ?_
 refine TrOps.nil ?_
 refine AtD.seq ?_
 refine TrD.seq ?_
 refine TrD.region ?_
 refine TrOps.sem (OpSem.move (.inl rfl) rfl) rfl rfl (by decide) ?_
 refine TrOps.callI (hs := []) (kd := 5012) (F := fo []) ((space_Words_Start_does t (sv := sv)).toM0 (ds := [(ptr bw ow, .p [.v (.int .u32 (wdF t.ini : Int)), .v (.int .u32 (wdF t.goal : Int)), .v sv])]) rfl (fun i v s h1 h2 => by rcases i with _ | _ | i <;> simp at h1 h2; subst h1 h2; simp) rfl) (fun v xs w => by kernel_rfl) rfl rfl rfl (by decide) rfl rfl (fun H => rfl) rfl (by decide) (by decide) (.nil) (.cons 1001 rfl (.head _) .nil) ?_ (by decide)
 rintro _ _ _ ⟨rfl, rfl, rfl⟩
 refine TrOps.semM (OpSem.buildS 13 rfl rfl es67 ze67 rfl rfl (by decide) (by decide) rfl rfl) rfl rfl (by decide) ?_
 refine TrOps.semM (OpSem.alloc 4 rfl zc67 rfl) rfl rfl (by decide) ?_
 refine TrOps.storeb rfl rfl rfl rfl rfl rfl rfl vs67 (by first | decide | simp) ?_
 refine TrOps.nil ?_
 refine AtD.seq ?_
 refine TrD.seq ?_
 refine TrD.region ?_
 refine TrOps.makeMapO 60 rfl rfl rfl (by decide) (fun bm => ?_)
 refine TrOps.sem (OpSem.move (.inl rfl) rfl) rfl rfl (by decide) ?_
 refine TrOps.callI (hs := []) (kd := 5016) (F := fo []) ((space_Words_Start_does t (sv := sv)).toM0 (ds := [(ptr bw ow, .p [.v (.int .u32 (wdF t.ini : Int)), .v (.int .u32 (wdF t.goal : Int)), .v sv])]) rfl (fun i v s h1 h2 => by rcases i with _ | _ | i <;> simp at h1 h2; subst h1 h2; simp) rfl) (fun v xs w => by kernel_rfl) rfl rfl rfl (by decide) rfl rfl (fun H => rfl) rfl (by decide) (by decide) (.nil) (.cons 1001 rfl (.head _) .nil) ?_ (by decide)
 rintro _ _ _ ⟨rfl, rfl, rfl⟩
 refine TrOps.sem (OpSem.build rfl rfl pl134 zc134 rfl rfl) rfl rfl (by decide) ?_
 refine TrOps.ofSt0' (OpSt.putO (h := 60) (l := []) (n := (wdF t.ini : Int)) (v := .agg #[]) (F' := oneO bm (.m (seeM [wdF t.ini]))) (.inr rfl) rfl rfl rfl (fun H => rfl) oneO_s mt132 iu72 updO_one) rfl rfl rfl ?_
 refine TrOps.sem (OpSem.move (.inl rfl) rfl) rfl rfl (by decide) ?_
 refine TrOps.semM (OpSem.alloc 5 rfl zc132 rfl) rfl rfl (by decide) ?_
 refine TrOps.storeb rfl rfl rfl rfl rfl rfl rfl vs132 (by first | decide | simp) ?_
 refine TrOps.nil ?_
 refine AtD.seq ?_
 refine TrD.seq ?_
 refine TrD.region ?_
 refine TrOps.sem (OpSem.move (.inr rfl) rfl) rfl rfl (by decide) ?_
 refine TrOps.ownNil (n := 6) 0 1 72 rfl ?_
 refine TrOps.nil ?_
 refine AtD.seq ?_
 refine TrD.seq ?_
 refine TrD.block ?_
 refine TrD.loop (Oc := Oc) (W := W) (X := (List Nat × List Nat × List Nat)) (fun x => AlI t x.1 x.2.1 x.2.2 ∧ x.2.1.length ≤ 2000) (fun x => [(0, .d (.v (.iface 66 (ptr bw ow)))), (4, .r 4 0), (5, .r 5 0), (6, .o 0)]) (fun x => [(60, poM (oneO bm (.m (seeM x.2.1)))), (4, .box [.o 13]), (5, .box [.d (.v (.map (some bm)))]), (0, .own 1 72 (x.2.2.map u32C)), (13, .own 1 72 (x.1.map u32C)), (999, .any (restK Oc W)), (1000, .fr (frK Oc W)), (1001, .fr (dsS [(ptr bw ow, .p [.v (.int .u32 (wdF t.ini : Int)), .v (.int .u32 (wdF t.goal : Int)), .v sv]), (sv, .d (mssD t.ops))]))]) (fun x => 2001 - x.2.2.length) ([wdF t.ini], [wdF t.ini], []) ⟨.start, by simp⟩ ?_ ?_
 ·exact .slot rfl (.refl _) <| .slot rfl (.refl _) <| .slot rfl (.refl _) <| .slot rfl (.refl _) <| .mem rfl <| .mem rfl <| .mem rfl <| .mem rfl <| .memEq rfl (by simp) <| .memEq rfl (by rw [el67]; rfl) <| .mem rfl <| .mem rfl <| .mem rfl <| .nil
 ·rintro ⟨st0, se, out⟩ ds ⟨hI, hse⟩
  simp only [] at hI hse
  refine TrD.seq ?_
  refine TrD.seq ?_
  refine TrD.region ?_
  refine TrOps.sem (OpSem.loadb1 rfl rfl rfl vs67 rfl) rfl rfl (by decide) ?_
  refine TrOps.sem (OpSem.leno rfl rfl rfl es67) rfl rfl (by decide) ?_
  refine TrOps.sem (OpSem.bin rfl rfl rfl bgtr) rfl rfl (by decide) ?_
  refine TrOps.nil ?_
  refine AtD.seq ?_
  refine TrD.cond rfl (fun c21 => ?_) (fun c21 => ?_)
  ·have hne : st0 ≠ [] := fun h => by subst h; simp at c21
   obtain ⟨st, s, rfl⟩ := snoc_of hne
   have hs24 := (hI.rc s ((hI.mm s).2 (by simp))).lt hV
   have hlen := hI.len
   simp only [List.length_append, List.length_cons, List.length_nil] at hlen
   have hnx := fun k hk => hI.next (k := k) hk
   have hop : (opL t s).length ≤ t.ops.length := opT_len
   refine TrD.skip ?_
   refine AtD.seq ?_
   refine TrD.block ?_
   refine TrD.seq ?_
   refine TrD.region ?_
   refine TrOps.sem (OpSem.loadb1 rfl rfl rfl vs67 rfl) rfl rfl (by decide) ?_
   refine TrOps.sem (OpSem.loadb1 rfl rfl rfl vs67 rfl) rfl rfl (by decide) ?_
   refine TrOps.sem (OpSem.leno rfl rfl rfl es67) rfl rfl (by decide) ?_
   refine TrOps.sem (OpSem.bin rfl rfl rfl (bsub (by first | omega | (simp; done) | (simp; omega)) (by first | omega | (simp; done) | (simp; omega)))) rfl rfl (by decide) ?_
   refine TrOps.sem (OpSem.idxo rfl rfl rfl rfl es67 (by first | omega | (simp; done) | (simp; omega)) (by first | omega | (simp; done) | (simp; omega))) rfl rfl (by decide) ?_
   refine TrOps.sem (OpSem.loadq rfl rfl rfl vs72 (stk_get (by first | (simp; done) | (simp; omega))) rfl) rfl rfl (by decide) ?_
   refine TrOps.sem (OpSem.move (.inr rfl) rfl) rfl rfl (by decide) ?_
   refine TrOps.nil ?_
   refine AtD.seq ?_
   refine TrD.seq ?_
   refine TrD.region ?_
   refine TrOps.sem (OpSem.loadb1 rfl rfl rfl vs67 rfl) rfl rfl (by decide) ?_
   refine TrOps.sem (OpSem.loadb1 rfl rfl rfl vs67 rfl) rfl rfl (by decide) ?_
   refine TrOps.sem (OpSem.leno rfl rfl rfl es67) rfl rfl (by decide) ?_
   refine TrOps.sem (OpSem.bin rfl rfl rfl (bsub (by first | omega | (simp; done) | (simp; omega)) (by first | omega | (simp; done) | (simp; omega)))) rfl rfl (by decide) ?_
   refine TrOps.semM (OpSem.cutO rfl rfl rfl rfl es67 (by first | omega | (simp; done) | (simp; omega)) (by first | omega | (simp; done) | (simp; omega)) (by first | omega | (simp; done) | (simp; omega))) rfl rfl (by decide) ?_
   refine TrOps.storeb rfl rfl rfl rfl rfl rfl rfl vs67 (by first | decide | simp) ?_
   refine TrOps.nil ?_
   refine AtD.seq ?_
   refine TrD.seq ?_
   refine TrD.region ?_
   refine TrOps.sem (OpSem.move (.inl rfl) rfl) rfl rfl (by decide) ?_
   refine TrOps.sem (OpSem.move (.inl rfl) rfl) rfl rfl (by decide) ?_
   refine TrOps.sem (OpSem.buildSlice rfl rfl es67 ze67 rfl rfl (by decide) (by decide) rfl rfl) rfl rfl (by decide) ?_
   refine TrOps.append rfl rfl rfl (by decide) rfl rfl rfl es67 el67 zc72 rfl by72 (by simp [D.one, Value.oneCell']) (by simp [maxLen]; omega) (by simp; omega) ?_
   refine TrOps.sem (OpSem.move (.inr rfl) rfl) rfl rfl (by decide) ?_
   refine TrOps.nil ?_
   refine AtD.seq ?_
   refine TrD.seq ?_
   refine TrD.seq ?_
   refine TrD.region ?_
   refine TrOps.sem (OpSem.move (.inl rfl) rfl) rfl rfl (by decide) ?_
   refine TrOps.sem (OpSem.move (.inl rfl) rfl) rfl rfl (by decide) ?_
   refine TrOps.callI (hs := []) (kd := 5039) (F := fo []) (space_Words_Steps_M (s := s)) (fun v xs w => by kernel_rfl) rfl rfl rfl (by decide) rfl rfl (fun H => rfl) rfl (by decide) (by decide) (.nil) .nil ?_ (by decide)
   rintro _ _ _ ⟨x1, x2, rfl, rfl, rfl⟩
   refine TrOps.nil ?_
   refine AtD.seq ?_
   refine TrD.block ?_
   refine TrD.range (Y := Unit) (n := (opL t s).length) (gf := 81) (lb := [x1, x2]) (enc := fun k => stV t s (nth (opL t s) k)) [(0, .d (.v (.iface 66 (ptr bw ow)))), (4, .r 4 0), (5, .r 5 0), (6, .o 0)] (fun k y => [(60, poM (oneO bm (.m (seeM ((alR t s (st, se) k).2))))), (4, .box [.o 13]), (5, .box [.d (.v (.map (some bm)))]), (13, .own 1 72 (((alR t s (st, se) k).1).map u32C)), (0, .own 1 72 ((out ++ [s]).map u32C)), (999, .any (restK Oc W)), (1000, .fr (frK Oc W)), (1001, .fr (dsS [(ptr bw ow, .p [.v (.int .u32 (wdF t.ini : Int)), .v (.int .u32 (wdF t.goal : Int)), .v sv]), (sv, .d (mssD t.ops))]))]) (fun k y => True) () (fun k => .g [I (((nth (opL t s) k : Nat) : Int)), I ((nth t.ops ((nth (opL t s) k : Nat) : Int)).cost), .d (.v (.int .u32 (((toW t s (nth (opL t s) k)) : Int))))]) rfl (fun O H a w hst => space_Words_Steps_1_seq t hV s hs24 (DsIn.rep hst (.cons 5039 rfl (.head _) <| .cons 5039 rfl (.tail _ (.head _)) <| .cons 1001 rfl (.head _) <| .cons 1001 rfl (.tail _ (.head _)) .nil))) Tryz.call81 trivial ?_ rfl rfl rfl (by decide) rfl rfl rfl rfl rfl (fun k y => ⟨rfl, rfl⟩) (fun k O H w => stV_rep) ?_ ?_
   ·exact .slot rfl (.refl _) <| .slot rfl (.refl _) <| .slot rfl (.refl _) <| .slot rfl (.refl _) <| .mem rfl <| .mem rfl <| .mem rfl <| .memEq rfl (by rw [show (alR t s (st, se) 0).1 = st from rfl]; first | (simp; done) | (simp; rfl)) <| .memEq rfl (by first | (simp; done) | (simp; rfl)) <| .mem rfl <| .mem rfl <| .mem rfl <| .nil
   ·rintro k y l r0 r1 ds2 K hk hp hl
    obtain ⟨n1, n2, n3, n4, n5, n6, n7⟩ := hnx k (Nat.le_of_lt hk)
    refine Tr.region ?_
    refine TrOps.semM (OpSem.alloc 8 rfl zc117 rfl) rfl rfl (by decide) ?_
    refine TrOps.storeb rfl rfl rfl rfl rfl rfl rfl vs117 (by first | decide | simp) ?_
    refine TrOps.nil ?_
    refine At.begR (e1 := [(0, .d (.v (.iface 66 (ptr bw ow)))), (4, .r 4 0), (5, .r 5 0), (6, .o 0), (8, .r 8 0)]) (M1 := [(9002, .any (dsK Oc W ds2)), (9003, .fr K), (60, poM (oneO bm (.m (seeM ((alR t s (st, se) k).2))))), (4, .box [.o 13]), (5, .box [.d (.v (.map (some bm)))]), (13, .own 1 72 (((alR t s (st, se) k).1).map u32C)), (0, .own 1 72 ((out ++ [s]).map u32C)), (999, .any (restK Oc W)), (1000, .fr (frK Oc W)), (1001, .fr (dsS [(ptr bw ow, .p [.v (.int .u32 (wdF t.ini : Int)), .v (.int .u32 (wdF t.goal : Int)), .v sv]), (sv, .d (mssD t.ops))])), (8, .box [I (((nth (opL t s) k : Nat) : Int)), I ((nth t.ops ((nth (opL t s) k : Nat) : Int)).cost), .d (.v (.int .u32 (((toW t s (nth (opL t s) k)) : Int))))])]) (.slot rfl (.refl _) <| .slot rfl (.refl _) <| .slot rfl (.refl _) <| .slot rfl (.refl _) <| .slot rfl (.refl _) <| .mem rfl <| .mem rfl <| .mem rfl <| .mem rfl <| .mem rfl <| .mem rfl <| .mem rfl <| .mem rfl <| .mem rfl <| .mem rfl <| .mem rfl <| .mem rfl <| .nil) hl ?_
    refine Tr.block ?_
    refine Tr.seq ?_
    refine Tr.region ?_
    refine TrOps.sem (OpSem.loadb1 rfl rfl rfl vs132 rfl) rfl rfl (by decide) ?_
    refine TrOps.sem (OpSem.fieldr rfl rfl fo117_2) rfl rfl (by decide) ?_
    refine TrOps.sem (OpSem.loadb1 rfl rfl rfl vs72 rfl) rfl rfl (by decide) ?_
    refine TrOps.sem (OpSem.lookO2 (h := 60) (l := seeM ((alR t s (st, se) k).2)) (n := ((toW t s (nth (opL t s) k)) : Int)) (v := .agg #[]) (f := decide ((toW t s (nth (opL t s) k)) ∈ (alR t s (st, se) k).2)) rfl rfl rfl rfl oneO_s mt132 iu72 zw134 see_v see_f) rfl rfl (by decide) ?_
    refine TrOps.sem (OpSem.move (.inl rfl) rfl) rfl rfl (by decide) ?_
    refine TrOps.sem (OpSem.extract rfl rfl rfl) rfl rfl (by decide) ?_
    refine TrOps.asG0 46 rfl ?_
    refine TrOps.sem (OpSem.extract rfl rfl rfl) rfl rfl (by decide) ?_
    refine TrOps.semM (OpSem.alloc 9 rfl zc134 rfl) rfl rfl (by decide) ?_
    refine TrOps.storeb rfl rfl rfl rfl rfl rfl rfl vs134 (by first | decide | simp) ?_
    refine TrOps.sem (OpSem.move (.inr rfl) rfl) rfl rfl (by decide) ?_
    refine TrOps.nil ?_
    refine At.seq ?_
    refine Tr.seq ?_
    refine Tr.region ?_
    refine TrOps.sem (OpSem.move (.inl rfl) rfl) rfl rfl (by decide) ?_
    refine TrOps.sem (OpSem.not rfl rfl) rfl rfl (by decide) ?_
    refine TrOps.nil ?_
    refine At.seq ?_
    refine Tr.cond rfl (fun c49 => ?_) (fun c49 => ?_)
    ·have hnot : (toW t s (nth (opL t s) k)) ∉ (alR t s (st, se) k).2 := by simpa using c49
     refine Tr.seq ?_
     refine Tr.region ?_
     refine TrOps.sem (OpSem.loadb1 rfl rfl rfl vs132 rfl) rfl rfl (by decide) ?_
     refine TrOps.sem (OpSem.fieldr rfl rfl fo117_2) rfl rfl (by decide) ?_
     refine TrOps.sem (OpSem.loadb1 rfl rfl rfl vs72 rfl) rfl rfl (by decide) ?_
     refine TrOps.sem (OpSem.build rfl rfl pl134 zc134 rfl rfl) rfl rfl (by decide) ?_
     refine TrOps.ofSt0' (OpSt.putO (h := 60) (l := (seeM ((alR t s (st, se) k).2))) (n := ((toW t s (nth (opL t s) k)) : Int)) (v := .agg #[]) (F' := oneO bm (.m (seeM ((alR t s (st, se) k).2 ++ [(toW t s (nth (opL t s) k))])))) (.inl rfl) rfl rfl rfl (fun H => rfl) oneO_s mt132 iu72 (by rw [updO_one, putI_see hnot])) rfl rfl rfl ?_
     refine TrOps.nil ?_
     refine At.seq ?_
     refine Tr.region ?_
     refine TrOps.sem (OpSem.loadb1 rfl rfl rfl vs67 rfl) rfl rfl (by decide) ?_
     refine TrOps.sem (OpSem.fieldr rfl rfl fo117_2) rfl rfl (by decide) ?_
     refine TrOps.sem (OpSem.loadb1 rfl rfl rfl vs72 rfl) rfl rfl (by decide) ?_
     refine TrOps.sem (OpSem.buildSlice rfl rfl es67 ze67 rfl rfl (by decide) (by decide) rfl rfl) rfl rfl (by decide) ?_
     refine TrOps.append rfl rfl rfl (by decide) rfl rfl rfl es67 el67 zc72 rfl by72 (by simp [D.one, Value.oneCell']) (by simp [maxLen]; omega) (by simp; omega) ?_
     refine TrOps.storeb rfl rfl rfl rfl rfl rfl rfl vs67 (by first | decide | simp) ?_
     refine TrOps.nil ?_
     refine At.block_normal ?_
     refine At.endR () trivial ?_
     exact .slot rfl (.refl _) <| .slot rfl (.refl _) <| .slot rfl (.refl _) <| .slot rfl (.refl _) <| .mem rfl <| .mem rfl <| .mem rfl <| .memEq rfl (by rw [alR_f hnot] <;> rfl) <| .mem rfl <| .mem rfl <| .memEq rfl (by rw [alR_f hnot]; first | (simp; done) | (simp; rfl)) <| .mem rfl <| .mem rfl <| .mem rfl <| .mem rfl <| .nil
    ·have hin : (toW t s (nth (opL t s) k)) ∈ (alR t s (st, se) k).2 := by simpa using c49
     refine Tr.skip ?_
     refine At.block_normal ?_
     refine At.endR () trivial ?_
     exact .slot rfl (.refl _) <| .slot rfl (.refl _) <| .slot rfl (.refl _) <| .slot rfl (.refl _) <| .mem rfl <| .mem rfl <| .mem rfl <| .memEq rfl (by rw [alR_t hin] <;> rfl) <| .mem rfl <| .mem rfl <| .memEq rfl (by rw [alR_t hin] <;> rfl) <| .mem rfl <| .mem rfl <| .mem rfl <| .mem rfl <| .nil
   ·rintro y ds2 hp
    obtain ⟨n1, n2, n3, n4, n5, n6, n7⟩ := hnx (opL t s).length (Nat.le_refl _)
    refine AtD.block_normal ?_
    refine AtD.seq ?_
    refine TrD.seq ?_
    refine TrD.region ?_
    refine TrOps.sem (OpSem.loadb1 rfl rfl rfl vs132 rfl) rfl rfl (by decide) ?_
    refine TrOps.sem (OpSem.lenMO (h := 60) rfl rfl rfl oneO_s mt132) rfl rfl (by decide) ?_
    refine TrOps.sem (OpSem.bin rfl rfl rfl bgtr) rfl rfl (by decide) ?_
    refine TrOps.nil ?_
    refine AtD.seq ?_
    refine TrD.cond rfl (fun c61 => ?_) (fun c61 => ?_)
    ·have hbig : BigW t := hI.round.big (by simp at c61; omega)
     refine TrD.seq ?_
     refine TrD.region ?_
     refine TrOps.sem (OpSem.move (.inr rfl) rfl) rfl rfl (by decide) ?_
     refine TrOps.sem (OpSem.move (.inr rfl) rfl) rfl rfl (by decide) ?_
     refine TrOps.addNo 0 ?_
     refine TrOps.nil ?_
     refine AtD.seq ?_
     refine TrD.ret ?_
     refine AtD.block_ret ?_
     refine AtD.pass_ret ?_
     refine AtD.block_ret ?_
     refine AtD.pass_ret ?_
     exact AtD.retM (F' := fo []) (ds' := []) (v := .tuple #[.slice none 0 0, .bool false]) (.inl rfl) rfl (.tmp rfl <| .tmp rfl <| .nil) (fun H => rfl) (.cons rfl <| .nil) .nil rfl rfl rfl (⟨rfl, .inr ⟨rfl, rfl, hbig⟩⟩)
    ·have hse2 : (alR t s (st, se) (opL t s).length).2.length ≤ 2000 := by simp at c61; omega
     refine TrD.skip ?_
     refine AtD.block_normal ?_
     refine AtD.again ((alR t s (st, se) (opL t s).length).1, (alR t s (st, se) (opL t s).length).2, out ++ [s]) ⟨hI.round, hse2⟩ ?_ (by simp; omega)
     exact .slot rfl (.refl _) <| .slot rfl (.refl _) <| .slot rfl (.refl _) <| .slot rfl (.refl _) <| .mem rfl <| .mem rfl <| .mem rfl <| .mem rfl <| .mem rfl <| .mem rfl <| .mem rfl <| .mem rfl <| .mem rfl <| .nil
  ·have hst : st0 = [] := by first | (simp at c21; exact c21) | exact List.eq_nil_of_length_eq_zero (by simp at c21; omega)
   subst hst
   refine TrD.exit ?_
   refine AtD.pass_exit ?_
   refine AtD.pass_exit ?_
   refine AtD.block_same ?_
   refine AtD.seq ?_
   refine TrD.seq ?_
   refine TrD.region ?_
   refine TrOps.ownPo 0 6 rfl rfl rowsU (fun h => by have := hI.fin.ini; simp at h; subst h; cases this) (fun b cap tl hpl => ?_)
   refine TrOps.sem (OpSem.move (.inl rfl) rfl) rfl rfl (by decide) ?_
   refine TrOps.sem (OpSem.move (.inr rfl) rfl) rfl rfl (by decide) ?_
   refine TrOps.sem (OpSem.move (.inr rfl) rfl) rfl rfl (by decide) ?_
   refine TrOps.nil ?_
   refine AtD.seq ?_
   refine TrD.ret ?_
   exact AtD.retM (F' := fo [oneO b (.c 72 (out.map u32V ++ tl))]) (ds' := []) (v := .tuple #[slc b (out.map u32V).length cap, .bool true]) (.inl rfl) rfl (.tmp rfl <| .tmp rfl <| .nil) (fun H => rfl) (.cons rfl <| .nil) .nil rfl rfl rfl (⟨rfl, .inl ⟨b, cap, tl, out, rfl, hpl, rfl, hI.fin, by have := hI.len; simp at this; omega⟩⟩)
theorem space_All_R (t : Tsk) (hV : TskV t) {bw ow : Nat} {sv : Value} : DoesM Tryz.prog 46 [.iface 66 (ptr bw ow)] [(ptr bw ow, .p [.v (.int .u32 (wdF t.ini : Int)), .v (.int .u32 (wdF t.goal : Int)), .v sv]), (sv, .d (mssD t.ops))] 1 (fo []) (fun v F' ds' => ds' = [] ∧ AlR t v F') := by
  have h := space_All_uint32_M t hV (bw := bw) (ow := ow) (sv := sv)
  refine ⟨h.can, .inl fun i h => by simp [fo, noO], fun O w h1 h2 => (h.run O w h1 h2).mono ?_⟩
  rintro en w' ⟨v, F', ds', O', rfl, ⟨rfl, hr⟩, hrest⟩
  refine ⟨v, F', [], O', rfl, ⟨rfl, ?_⟩, hrest⟩
  rcases hr with ⟨b, cap, tl, l, rfl, hp, rfl, ha, hl⟩ | ⟨rfl, rfl, hb⟩
  · exact ⟨_, true, rfl, fun _ => ⟨b, cap, tl, l, rfl, hp, rfl, ha, hl⟩, fun h => by cases h⟩
  · exact ⟨_, false, rfl, fun h => (by cases h), fun _ => ⟨rfl, hb⟩⟩
theorem space_Checked_M (t : Tsk) {tv : Value} : DoesM Tryz.prog 23 [tv] [(tv, tskS t)] 0 (fo []) (fun v F' ds' => F' = fo [] ∧ ((tskF t ≠ (0, 0) ∧ v = .tuple #[.pointer none, .slice none 0 0, .agg #[.int .i64 (tskF t).1, .int .i64 (tskF t).2]] ∧ ds' = []) ∨ (tskF t = (0, 0) ∧ BigW t ∧ v = .tuple #[.pointer none, .slice none 0 0, .agg #[.int .i64 10, .int .i64 (-7)]] ∧ ds' = []) ∨ (tskF t = (0, 0) ∧ ∃ bw ow sv lv l, v = .tuple #[ptr bw ow, lv, .agg #[.int .i64 0, .int .i64 0]] ∧ ds' = [(ptr bw ow, .p [.v (.int .u32 (wdF t.ini : Int)), .v (.int .u32 (wdF t.goal : Int)), .v sv]), (sv, .d (mssD t.ops)), (lv, .d (.s 1 (l.map u32C)))] ∧ AlW t l ∧ l.length ≤ 2000))) := by
 refine DoesM.of_body Tryz.func23 rfl rfl (by simp) Tryz.call23 (.inl fun i h => absurd h (Nat.not_lt_zero i)) (fun Oc W => ?_); refine .seeD 0 1001 rfl rfl (.head _) ?_; refine .g <| .r <| .bx 1 ?_; refine .a ?_; refine .a ?_; refine .al 4 zc32 ?_; refine .sq <| .g <| .g <| .r <| .x (.L vs43) ?_; refine .x (OpSem.call0 (strips_Validate_does t) rfl rfl rfl rfl (Les.refl _)) ?_; refine .al 5 zc32 ?_; refine .sb vs32 ?_; refine .z <| .x (.L vs32) ?_; refine .x (.bd pl32 zc32) ?_; refine .x (OpSem.neS2 rfl rfl rfl io32) ?_; refine .sq <| .cond rfl (fun c13 => ?_) (fun c13 => ?_)
 ·have hne : tskF t ≠ (0, 0) := fun h => by simp [h] at c13
  refine .g <| PC.start [] ?_; refine .x (.L vs32) ?_; refine .x (OpSem.move (.inr rfl) rfl) ?_; refine .x (OpSem.move (.inr rfl) rfl) ?_; refine .d0 mixed ?_; refine .sb vs32 ?_; exact .sq <| .t <| .t <| .retM (F' := fo []) (ds' := []) (v := .tuple #[.pointer none, .slice none 0 0, .agg #[.int .i64 (tskF t).1, .int .i64 (tskF t).2]]) (.inl rfl) rfl (.tmp rfl <| .tmp rfl <| .cellN rfl rfl vs32 <| .nil) (fun H => rfl) (.nil) .nil rfl rfl (⟨rfl, .inl ⟨hne, rfl, rfl⟩⟩)
 ·have h0 : tskF t = (0, 0) := pair0 (by simpa using c13)
  have hV := tskF_v h0
  refine .p <| .z <| .x (.L vs43) ?_; refine .x (OpSem.call0 (space_Of_does t hV) rfl rfl rfl rfl (Les.refl _)) ?_; refine .a ?_; refine .z <| .rawPL 6 7003 (cs := [_, _]) rfl (fun bw ow sv => ?_); refine .m ?_; refine .x (OpSem.mkI rfl rfl (by kernel_rfl)) ?_; refine .addNo 70 ?_; refine .callM (hs := [70]) (kd := 5020) (F := fo []) (space_All_R t hV (bw := bw) (ow := ow) (sv := sv)) rfl rfl rfl (by decide) rfl rfl (fun H => rfl) rfl (by decide) (by decide) (.cons rfl <| .nil) (.cons 7003 rfl (.head _) <| .cons 7003 rfl (.tail _ (.head _)) .nil) ?_ (by decide)
  rintro v F2 ds2 ⟨rfl, lv, ok, rfl, hR1, hR2⟩
  refine .asT 20 (vs := [lv, .bool ok]) rfl ?_; refine .m ?_; refine .x .xt ?_; refine .x .xt ?_; refine .a ?_; refine .a ?_; refine .sq <| .g <| .g <| .r <| .m ?_; refine .x .nt ?_; refine .sq <| .cond rfl (fun c24 => ?_) (fun c24 => ?_)
  ·have hok : ok = false := by simpa using c24
   subst hok
   have hbig := (hR2 rfl).2
   refine .g <| .r <| .x (.bd pl32 zc32) ?_; refine .a ?_; refine .a ?_; refine .sb vs32 ?_; exact .sq <| .t <| .t <| .retM (F' := fo []) (ds' := []) (v := .tuple #[.pointer none, .slice none 0 0, .agg #[.int .i64 10, .int .i64 (-7)]]) (.inl rfl) rfl (.tmp rfl <| .tmp rfl <| .cellN rfl rfl vs32 <| .nil) (fun H => rfl) (.nil) .nil rfl rfl (⟨rfl, .inr (.inl ⟨h0, hbig, rfl, rfl⟩)⟩)
  ·have hok : ok = true := by simpa using c24
   subst hok
   obtain ⟨b, cap, tl, l, rfl, hpl, hF, hA, hl⟩ := hR1 rfl
   refine .p <| .z <| .poEq 70 rfl hF ?_; refine .poOwn 70 7 rfl rfl hpl (fun v hv => by obtain ⟨x, _, rfl⟩ := List.mem_map.1 hv; rfl) ?_; refine .memEq (h := 70) (m' := .own 1 72 (l.map u32C)) rfl (by rw [rowsU]) ?_; refine .m ?_; refine .ofSt (OpSt.callWS (s := .t []) (sortWd_all l (by omega) (fun h => by have := hA.ini; rw [h] at this; cases this) (fun x hx => by have := (hA.rc x hx).lt hV; omega)) rfl rfl rfl (fun H => rfl) (plain_u32' _) (fun O H w => .t [] [] rfl (fun i x s h => by simp at h))) rfl rfl rfl (by decide) ?_; refine .sq <| .g <| .freeze 70 rfl ?_; refine .r <| .rawS 7 7004 rfl rfl (fun lv2 => ?_); refine .mm ?_; refine .x (.bd pl32 zc32) ?_; refine .a ?_; refine .a ?_; refine .sb vs32 ?_; exact .sq <| .t <| .retM (F' := fo []) (ds' := [(ptr bw ow, .p [.v (.int .u32 (wdF t.ini : Int)), .v (.int .u32 (wdF t.goal : Int)), .v sv]), (sv, .d (mssD t.ops)), (lv2, .d (.s 1 ((sortWd l).map u32C)))]) (v := .tuple #[ptr bw ow, lv2, .agg #[.int .i64 0, .int .i64 0]]) (.inl rfl) rfl (.tmp rfl <| .tmp rfl <| .cellN rfl rfl vs32 <| .nil) (fun H => rfl) (.nil) (.cons 7003 rfl (.head _) <| .cons 7003 rfl (.tail _ (.head _)) <| .cons 7004 rfl (.head _) .nil) rfl rfl (⟨rfl, .inr (.inr ⟨h0, bw, ow, sv, lv2, sortWd l, rfl, rfl, hA.perm (sortWd_perm l).1, by rw [(sortWd_perm l).2]; exact hl⟩)⟩)
end Go.Proofs.YtgophedpkiidkaaGreat
end
