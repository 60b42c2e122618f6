/- Part 3. -/
import Derived.Test.YthjmgcopfipabaaGreatE2
import Derived.Laws.IdiomCopy
set_option linter.unusedSimpArgs false
set_option linter.unnecessarySimpa false
set_option linter.unusedVariables false
set_option linter.unusedSectionVars false
section
namespace Go.Eng
open Go
structure SOp where
 pre : List Int
 add : List Int
 del : List Int
 cost : Int
deriving DecidableEq
instance : Inhabited SOp := ⟨⟨[], [], [], 0⟩⟩
structure Tsk where
 facts : Int
 ini : List Int
 goal : List Int
 ops : List SOp
deriving DecidableEq
instance : Inhabited Tsk := ⟨⟨0, [], [], []⟩⟩
abbrev sopC (o : SOp) : List D := [ints o.pre, ints o.add, ints o.del, .v (.int .i64 o.cost)]
abbrev sopS (o : SOp) : S := .g [.d (ints o.pre), .d (ints o.add), .d (ints o.del), I o.cost]
abbrev sopsD (l : List SOp) : D := .s 4 (l.map sopC)
abbrev tskC (t : Tsk) : List D := [.v (.int .i64 t.facts), ints t.ini, ints t.goal, sopsD t.ops]
abbrev tskS (t : Tsk) : S := .g [I t.facts, .d (ints t.ini), .d (ints t.goal), .d (sopsD t.ops)]
def lbd (l : List Int) (x : Int) : Nat := (l.filter fun y => decide (y < x)).length
theorem lbd_le {l : List Int} {x : Int} : lbd l x ≤ l.length := List.length_filter_le _ _
theorem lbd_cons {l : List Int} {x y : Int} : lbd (y :: l) x = if y < x then lbd l x + 1 else lbd l x := by
 unfold lbd
 by_cases h : y < x <;> simp [List.filter_cons, h]
theorem lbd_iff {x : Int} : ∀ {l : List Int}, l.Pairwise (· < ·) → ∀ {i : Nat}, i < l.length → (nth l i < x ↔ i < lbd l x)
 | [], _, i, h => by simp at h
 | y :: l, hp, i, hi => by
  rw [List.pairwise_cons] at hp
  have h0 : y < x ∨ lbd l x = 0 := by
   by_cases h : y < x
   ·exact .inl h
   ·right
    unfold lbd
    rw [List.filter_eq_nil_iff.2 (fun z hz => by have := hp.1 z hz; simp; omega)]; rfl
  rw [lbd_cons]
  cases i with
  | zero =>
   show y < x ↔ _
   by_cases h : y < x
   ·simp [h]
   ·rcases h0 with h0 | h0
    ·exact absurd h0 h
    ·simp [h, h0]
  | succ i =>
   have e : nth (y :: l) ((i + 1 : Nat) : Int) = nth l i := by simp [nth]
   rw [e, lbd_iff hp.2 (by simpa using hi)]
   rcases h0 with h0 | h0
   ·rw [if_pos h0]; omega
   ·by_cases h : y < x
    ·rw [if_pos h]; omega
    ·rw [if_neg h]; omega
theorem lbd_mem {l : List Int} {x : Int} (hp : l.Pairwise (· < ·)) : x ∈ l ↔ lbd l x < l.length ∧ nth l (lbd l x) = x := by
 constructor
 ·intro h
  obtain ⟨i, hi, he⟩ := List.getElem_of_mem h
  have hx : nth l i = x := by rw [nth_eq hi, he]
  have h1 := lbd_iff (x := x) hp hi
  have h2 : lbd l x ≤ i := by
   have : ¬ i < lbd l x := fun hh => by have := h1.2 hh; omega
   omega
  refine ⟨by omega, ?_⟩
  by_cases e : lbd l x = i
  ·rw [e]; exact hx
  ·have h3 : ¬ nth l (lbd l x) < x := fun hh => by have := (lbd_iff (x := x) hp (show lbd l x < l.length by omega)).1 hh; omega
   have h4 := List.pairwise_iff_getElem.1 hp (lbd l x) i (by omega) hi (by omega)
   rw [← nth_eq (by omega), ← nth_eq hi] at h4
   omega
 ·rintro ⟨h1, h2⟩
  rw [← h2]
  exact nth_mem (by omega) (by omega)
def DisjP (a b : List Int) : Prop := ∀ i : Nat, i < a.length → nth a i ∉ b
instance {a b : List Int} : Decidable (DisjP a b) := by unfold DisjP; exact inferInstance
def opCode (n : Int) (o : SOp) : Int := if ¬ (SetP n o.pre ∧ SetP n o.add ∧ SetP n o.del ∧ DisjP o.add o.del) then 5 else if o.cost < 0 ∨ 100 < o.cost then 3 else 0
def sopsF (t : Tsk) : Int × Int := firstF (fun k => if opCode t.facts (nth t.ops k) = 0 then (0, 0) else (opCode t.facts (nth t.ops k), (k : Int))) t.ops.length
def tskF (t : Tsk) : Int × Int :=
 if t.facts < 0 ∨ 24 < t.facts then (3, -1) else if ¬ SetP t.facts t.ini then (5, -2) else if ¬ SetP t.facts t.goal then (5, -3) else if 40 < t.ops.length then (2, -1) else sopsF t
theorem opCode_5 {n : Int} {o : SOp} (h : ¬ (SetP n o.pre ∧ SetP n o.add ∧ SetP n o.del ∧ DisjP o.add o.del)) : opCode n o = 5 := by unfold opCode; rw [if_pos h]
theorem opCode_3 {n : Int} {o : SOp} (h : SetP n o.pre ∧ SetP n o.add ∧ SetP n o.del ∧ DisjP o.add o.del) (h2 : o.cost < 0 ∨ 100 < o.cost) : opCode n o = 3 := by unfold opCode; rw [if_neg (fun hn => hn h), if_pos h2]
theorem opCode_0 {n : Int} {o : SOp} (h : SetP n o.pre ∧ SetP n o.add ∧ SetP n o.del ∧ DisjP o.add o.del) (h2 : ¬ (o.cost < 0 ∨ 100 < o.cost)) : opCode n o = 0 := by unfold opCode; rw [if_neg (fun hn => hn h), if_neg h2]
section
variable {t : Tsk}
theorem tskF_1 (h : t.facts < 0 ∨ 24 < t.facts) : (3, -1) = tskF t := by unfold tskF; rw [if_pos h]
theorem tskF_2 (h : ¬ (t.facts < 0 ∨ 24 < t.facts)) (h2 : ¬ SetP t.facts t.ini) : (5, -2) = tskF t := by unfold tskF; rw [if_neg h, if_pos h2]
theorem tskF_3 (h : ¬ (t.facts < 0 ∨ 24 < t.facts)) (h2 : SetP t.facts t.ini) (h3 : ¬ SetP t.facts t.goal) : (5, -3) = tskF t := by unfold tskF; rw [if_neg h, if_neg (fun hn => hn h2), if_pos h3]
theorem tskF_4 (h : ¬ (t.facts < 0 ∨ 24 < t.facts)) (h2 : SetP t.facts t.ini) (h3 : SetP t.facts t.goal) (h4 : 40 < t.ops.length) : (2, -1) = tskF t := by unfold tskF; rw [if_neg h, if_neg (fun hn => hn h2), if_neg (fun hn => hn h3), if_pos h4]
theorem tskF_5 (h : ¬ (t.facts < 0 ∨ 24 < t.facts)) (h2 : SetP t.facts t.ini) (h3 : SetP t.facts t.goal) (h4 : ¬ 40 < t.ops.length) : tskF t = sopsF t := by unfold tskF; rw [if_neg h, if_neg (fun hn => hn h2), if_neg (fun hn => hn h3), if_neg h4]
theorem sops_bad {k : Nat} (hk : k < t.ops.length) (h : ∀ i : Nat, i < k → opCode t.facts (nth t.ops i) = 0) (hb : opCode t.facts (nth t.ops k) ≠ 0) : (opCode t.facts (nth t.ops k), (k : Int)) = sopsF t := by
 have := firstF_bad (f := fun k => if opCode t.facts (nth t.ops k) = 0 then (0, 0) else (opCode t.facts (nth t.ops k), (k : Int))) hk (fun j hj => if_pos (h j hj)) (by rw [if_neg hb]; intro e; exact hb (congrArg Prod.fst e))
 rw [if_neg hb] at this
 exact this
theorem sops_all (h : ∀ i : Nat, i < t.ops.length → opCode t.facts (nth t.ops i) = 0) : sopsF t = (0, 0) := firstF_of fun j hj => if_pos (h j hj)
end
theorem setP_len {n : Int} {l : List Int} (h : SetP n l) (hn : n ≤ 24) : l.length ≤ 1000000 := by
 have := pw_lt_len (n := n) (x := 0) (setP_sorted h) (fun y hy => setP_mem h hy)
 omega
theorem disj_any {a b : List Int} (h : ∀ x, x ∈ a → x ∉ b) : DisjP a b := fun i hi => h _ (nth_mem (by omega) (by omega))
theorem any_disj {a b : List Int} (h : (a.any fun x => decide (x ∈ b)) = true) (hd : DisjP a b) : False := by
 obtain ⟨x, hx, hb⟩ := List.any_eq_true.1 h
 obtain ⟨i, hi, rfl⟩ := List.getElem_of_mem hx
 have := hd i hi
 rw [nth_eq hi] at this
 exact this (by simpa using hb)
theorem opCode_c {n : Int} {o : SOp} {k : Int} : (if opCode n o = 0 then ((0, 0) : Int × Int) else (opCode n o, k)).1 = 0 → (if opCode n o = 0 then ((0, 0) : Int × Int) else (opCode n o, k)) = (0, 0) := by
 by_cases h : opCode n o = 0
 ·rw [if_pos h]; exact fun _ => rfl
 ·rw [if_neg h]; exact fun hh => absurd hh h
theorem tskF_inv {t : Tsk} (h : (tskF t).1 = 0) : (0 ≤ t.facts ∧ t.facts ≤ 24) ∧ SetP t.facts t.ini ∧ SetP t.facts t.goal ∧ t.ops.length ≤ 40 ∧ sopsF t = (0, 0) ∧ tskF t = (0, 0) := by
 by_cases h1 : t.facts < 0 ∨ 24 < t.facts
 ·rw [← tskF_1 h1] at h; simp at h
 ·by_cases h2 : SetP t.facts t.ini
  ·by_cases h3 : SetP t.facts t.goal
   ·by_cases h4 : 40 < t.ops.length
    ·rw [← tskF_4 h1 h2 h3 h4] at h; simp at h
    ·rw [tskF_5 h1 h2 h3 h4] at h ⊢
     have := firstF_code (fun j => opCode_c) h
     exact ⟨by omega, h2, h3, by omega, this, this⟩
   ·rw [← tskF_3 h1 h2 h3] at h; simp at h
  ·rw [← tskF_2 h1 h2] at h; simp at h
theorem tskF_code {t : Tsk} (h : (tskF t).1 = 0) : tskF t = (0, 0) := (tskF_inv h).2.2.2.2.2
end Go.Eng
end

section
namespace Go.Proofs.YthjmgcopfipabaaGreat
open Go.Eng
set_option maxRecDepth 10000
set_option maxHeartbeats 1000000
theorem slices_isNaN_int_does (x : Int) : Does Tryz.prog false 52 [I (x)] (Bo false) := by
 refine Does.of_body Tryz.func52 rfl rfl (by simp) Tryz.call52 (fun w0 O0 => ?_); refine .g <| .r <| .a ?_; refine .z <| .mm ?_; refine .x (.b bneq) ?_; refine .a ?_; exact .sq <| .t <| .ret rfl (.tmp rfl <| .nil) rfl (Le.bo (by simp))
theorem cmp_Less_int_does (x y : Int) : Does Tryz.prog false 51 [I (x), I (y)] (Bo (decide (x < y))) := by
 refine Does.of_body Tryz.func51 rfl rfl (by simp) Tryz.call51 (fun w0 O0 => ?_); refine .g <| .r <| .a ?_; refine .z <| .m ?_; refine .x (OpSem.call0 (cmp_isNaN_int_does x) rfl rfl rfl rfl (Les.refl _)) ?_; refine .m ?_; refine .gf rfl ?_; refine .gf rfl ?_; refine .gf rfl ?_; refine .x (OpSem.pickF rfl rfl rfl rfl) ?_; refine .m ?_; refine .ht rfl ?_; refine .m ?_; refine .ht rfl ?_; refine .m ?_; refine .ht rfl ?_; refine .x (.b blss) ?_; refine .x (OpSem.pickF rfl rfl rfl rfl) ?_; refine .a ?_; exact .sq <| .t <| .ret rfl (.tmp rfl <| .nil) rfl (.refl _)
theorem slices_BinarySearch_int_int_does (l : List Int) (x : Int) (hp : l.Pairwise (· < ·)) (hl : l.length ≤ 1000000) : Does Tryz.prog false 25 [.d (ints l), I (x)] (.t [I (lbd l x : Int), Bo (decide (x ∈ l))]) := by
 have hmem := lbd_mem (x := x) hp
 have hle := lbd_le (l := l) (x := x)
 refine Does.of_body Tryz.func25 rfl rfl (by simp) Tryz.call25 (fun w0 O0 => ?_); refine .le 0 fun len0 => ?_; refine .g <| .r <| .a ?_; refine .a ?_; refine .z <| .m ?_; refine .x (.n es22) ?_; refine .a ?_; refine .z <| .m ?_; refine .a ?_; refine .a ?_; refine .sq <| .g <| .k <| .loop (X := (Nat × Nat)) (fun q => q.1 ≤ lbd l x ∧ lbd l x ≤ q.2 ∧ q.2 ≤ l.length) (fun q => [(0, .d (ints l)), (1, I (x)), (6, I (l.length)), (7, I (q.1)), (8, I (q.2))]) (fun q => []) (fun q => q.2 - q.1) (0, l.length) ⟨by omega, lbd_le, Nat.le_refl _⟩ ?_ ?_
 ·exact .p3 <| .slot rfl (Le.of_eq (by simp)) <| .slot rfl (Le.of_eq (by simp)) <| .nil
 ·rintro q ⟨h1, h2, h3⟩
  refine .g <| .g <| .r <| .mm ?_; refine .x (.b blss) ?_; refine .sq <| .cond rfl (fun c15 => ?_) (fun c15 => ?_)
  ·have hq : q.1 < q.2 := by simp at c15; omega
   have hm : ((q.1 : Int) + (q.2 : Int)) / 2 ^ (1 : Int).toNat = ((((q.1 + q.2) / 2) : Nat) : Int) := by first | (simp; done) | (simp; omega) | omega
   have hi := lbd_iff (x := x) hp (i := ((q.1 + q.2) / 2)) (by omega)
   refine .p <| .g <| .k <| .g <| .r <| .mm ?_; refine .x .ad ?_; refine .x (OpSem.conv rfl rfl cv3_101 (wrap_u64 (by omega) (by omega))) ?_; refine .x (OpSem.bin rfl rfl rfl (bshrK (by decide) (by decide))) ?_; refine .x (OpSem.conv rfl rfl cv101_3 (wrap_i64 (by rw [hm]; omega) (by rw [hm]; omega))) ?_; refine .a ?_; refine .z <| .mm ?_; refine .x (OpSem.idxL rfl rfl rfl es22 (by rw [hm]; omega) (by rw [hm]; omega)) ?_; refine .x (.l1 vs3) ?_; refine .m ?_; refine .x (OpSem.call0 (cmp_Less_int_does ..) rfl rfl rfl rfl (Les.refl _)) ?_; refine .sq <| .cond rfl (fun c27 => ?_) (fun c27 => ?_)
   ·have h4 : ((q.1 + q.2) / 2) < lbd l x := hi.1 (by rw [← hm]; simpa using c27)
    refine .r <| .m ?_; refine .x (OpSem.bin rfl rfl rfl (badd (by rw [hm]; omega) (by rw [hm]; omega))) ?_; refine .a ?_; refine .n <| .n <| .again (((q.1 + q.2) / 2) + 1, q.2) ⟨by omega, by omega, by omega⟩ ?_ (by simp only []; omega)
    exact .p3 <| .slot rfl (Le.i (by rw [hm]; simp)) <| .sl <| .nil
   ·have h4 : ¬ ((q.1 + q.2) / 2) < lbd l x := fun h => by have h6 := hi.2 h; rw [← hm] at h6; exact (of_decide_eq_false c27) h6
    refine .r <| .m ?_; refine .a ?_; refine .n <| .n <| .again (q.1, ((q.1 + q.2) / 2)) ⟨by omega, by omega, by omega⟩ ?_ (by simp only []; omega)
    exact .p3 <| .sl <| .slot rfl (Le.i hm) <| .nil
  ·have hq : q.1 = lbd l x := by simp at c15; omega
   refine .u <| .u <| .u <| .b <| .z <| .mm ?_; refine .m ?_; refine .x (.b blss) ?_; refine .m ?_; refine .split (n := 35) rfl (fun c35 => ?_) (fun c35 => ?_)
   ·refine .gt c35 ?_; refine .m ?_; refine .gt c35 ?_; refine .m ?_; refine .gt c35 ?_; refine .x (OpSem.idxL rfl rfl rfl es22 (by omega) (by simp at c35; omega)) ?_; refine .gt c35 ?_; refine .x (.l1 vs3) ?_; refine .gt c35 ?_; refine .m ?_; refine .gt c35 ?_; refine .x (.b beql) ?_; refine .gt c35 ?_; refine .m ?_; refine .split (n := 42) rfl (fun c42 => ?_) (fun c42 => ?_)
    ·refine .hf c42 ?_; refine .hf c42 ?_; refine .hf c42 ?_; refine .hf c42 ?_; refine .hf c42 ?_; refine .hf c42 ?_; refine .gu ?_; refine .gu ?_; refine .hf c42 ?_; refine .gt c35 ?_; refine .x (OpSem.pickT rfl rfl c42 rfl) ?_; refine .x (OpSem.pickT rfl rfl c35 rfl) ?_; refine .a ?_; refine .a ?_; exact .sq <| .t <| .ret rfl (.tmp rfl <| .tmp rfl <| .nil) rfl (Le.t (.cons (Le.i (by rw [hq])) <| .cons (Le.bo (by first | exact (decide_eq_true (hmem.2 ⟨by simp at c35; omega, by rw [← hq]; simpa using c42⟩)).symm | exact (decide_eq_false (fun h => by have h5 := hmem.1 h; rw [← hq] at h5; simp [h5.2] at c42)).symm | exact (decide_eq_false (fun h => by have h5 := hmem.1 h; simp at c35; omega)).symm)) <| .nil))
    ·refine .ht c42 ?_; refine .m ?_; refine .ht c42 ?_; refine .m ?_; refine .ht c42 ?_; refine .x (OpSem.idxL rfl rfl rfl es22 (by omega) (by simp at c35; omega)) ?_; refine .ht c42 ?_; refine .x (.l1 vs3) ?_; refine .ht c42 ?_; refine .x (OpSem.call0 (slices_isNaN_int_does ..) rfl rfl rfl rfl (Les.refl _)) ?_; refine .ht c42 ?_; refine .m ?_; refine .gf rfl ?_; refine .gf rfl ?_; refine .ht c42 ?_; refine .x (OpSem.pickF rfl rfl rfl rfl) ?_; refine .gt c35 ?_; refine .x (OpSem.pickF rfl rfl c42 rfl) ?_; refine .x (OpSem.pickT rfl rfl c35 rfl) ?_; refine .a ?_; refine .a ?_; exact .sq <| .t <| .ret rfl (.tmp rfl <| .tmp rfl <| .nil) rfl (Le.t (.cons (Le.i (by rw [hq])) <| .cons (Le.bo (by first | exact (decide_eq_true (hmem.2 ⟨by simp at c35; omega, by rw [← hq]; simpa using c42⟩)).symm | exact (decide_eq_false (fun h => by have h5 := hmem.1 h; rw [← hq] at h5; simp [h5.2] at c42)).symm | exact (decide_eq_false (fun h => by have h5 := hmem.1 h; simp at c35; omega)).symm)) <| .nil))
   ·refine .gf c35 ?_; refine .gf c35 ?_; refine .gf c35 ?_; refine .gf c35 ?_; refine .gf c35 ?_; refine .gf c35 ?_; refine .gf c35 ?_; refine .gu ?_; refine .gu ?_; refine .gu ?_; refine .gu ?_; refine .gu ?_; refine .gu ?_; refine .gu ?_; refine .gu ?_; refine .gu ?_; refine .gf c35 ?_; refine .x (OpSem.pickF rfl rfl c35 rfl) ?_; refine .a ?_; refine .a ?_; exact .sq <| .t <| .ret rfl (.tmp rfl <| .tmp rfl <| .nil) rfl (Le.t (.cons (Le.i (by rw [hq])) <| .cons (Le.bo (by first | exact (decide_eq_true (hmem.2 ⟨by simp at c35; omega, by rw [← hq]; simpa using c42⟩)).symm | exact (decide_eq_false (fun h => by have h5 := hmem.1 h; rw [← hq] at h5; simp [h5.2] at c42)).symm | exact (decide_eq_false (fun h => by have h5 := hmem.1 h; simp at c35; omega)).symm)) <| .nil))
theorem strips_Meets_1_does (x : Int) (b : List Int) (hp : b.Pairwise (· < ·)) (hl : b.length ≤ 1000000) : Does Tryz.prog false 131 [I (x), .p [ints b]] (Bo (decide (x ∈ b))) := by
 refine Does.of_body Tryz.func131 rfl rfl (by simp) Tryz.call131 (fun w0 O0 => ?_); refine .g <| .r <| .a ?_; refine .z <| .x (.l1 vs22) ?_; refine .m ?_; refine .x (OpSem.call0 (slices_BinarySearch_int_int_does b x hp hl) rfl rfl rfl rfl (Les.refl _)) ?_; refine .m ?_; refine .x .xt ?_; refine .x .xt ?_; refine .a ?_; refine .a ?_; refine .z <| .m ?_; refine .a ?_; exact .sq <| .t <| .ret rfl (.tmp rfl <| .nil) rfl (.refl _)
theorem strips_Meets_does (a b : List Int) (hp : b.Pairwise (· < ·)) (hl : b.length ≤ 1000000) : Does Tryz.prog false 115 [.d (ints a), .d (ints b)] (Bo (a.any fun x => decide (x ∈ b))) := by
 refine Does.of_body Tryz.func115 rfl rfl (by simp) Tryz.call115 (fun w0 O0 => ?_); refine .le 0 fun len0 => ?_; refine .le 1 fun len1 => ?_; refine .g <| .r <| .bx 3 ?_; refine .a ?_; refine .sq <| .g <| .freezeR 3 rfl rfl ?_; refine .r <| .m ?_; refine .x (OpSem.makeFunc rfl rfl rfl) ?_; refine .x (OpSem.call (slices_ContainsFunc_int_int_does a 131 [.p [ints b]] (fun x => decide (x ∈ b)) (caught_p _) (fun x _ => strips_Meets_1_does x b hp hl)) (.inr rfl) rfl rfl rfl rfl (Les.refl _)) ?_; refine .a ?_; exact .sq <| .t <| .ret rfl (.tmp rfl <| .nil) rfl (.refl _)
theorem strips_operator_does (o : SOp) (n : Int) (h0 : 0 ≤ n) (hn : n ≤ 24) : Does Tryz.prog false 79 [sopS o, I (n)] (I (opCode n o)) := by
 refine Does.of_body Tryz.func79 rfl rfl (by simp) Tryz.call79 (fun w0 O0 => ?_); refine .lg 0 0 fun len0_0 => ?_; refine .lg 0 1 fun len0_1 => ?_; refine .lg 0 2 fun len0_2 => ?_; refine .g <| .r <| .bx 2 ?_; refine .a ?_; refine .sq <| .g <| .k <| .g <| .r <| .x (.f fo41_0) ?_; refine .x (.l vs22) ?_; refine .m ?_; refine .x (OpSem.call0 (strips_IsSet_does o.pre n) rfl rfl rfl rfl (Les.refl _)) ?_; refine .x .nt ?_; refine .m ?_; refine .split (n := 11) rfl (fun c11 => ?_) (fun c11 => ?_)
 ·refine .hf c11 ?_; refine .hf c11 ?_; refine .hf c11 ?_; refine .hf c11 ?_; refine .hf c11 ?_; refine .x (OpSem.pickT rfl rfl c11 rfl) ?_; refine .m ?_; refine .hf rfl ?_; refine .hf rfl ?_; refine .hf rfl ?_; refine .hf rfl ?_; refine .hf rfl ?_; refine .x (OpSem.pickT rfl rfl rfl rfl) ?_; refine .m ?_; refine .hf rfl ?_; refine .hf rfl ?_; refine .hf rfl ?_; refine .hf rfl ?_; refine .hf rfl ?_; refine .x (OpSem.pickT rfl rfl rfl rfl) ?_; refine .a ?_; refine .sq <| .condT rfl rfl ?_; refine .g <| .r <| .a ?_; exact .sq <| .t <| .k <| .t <| .ret rfl (.tmp rfl <| .nil) rfl (Le.i (opCode_5 (fun h => by have := h.1; rw [decide_eq_true this] at c11; simp at c11)).symm)
 ·have s1 : SetP n o.pre := by simpa using c11
  refine .ht c11 ?_; refine .x (.f fo41_1) ?_; refine .ht c11 ?_; refine .x (.l vs22) ?_; refine .ht c11 ?_; refine .m ?_; refine .ht c11 ?_; refine .x (OpSem.call0 (strips_IsSet_does o.add n) rfl rfl rfl rfl (Les.refl _)) ?_; refine .ht c11 ?_; refine .x .nt ?_; refine .x (OpSem.pickF rfl rfl c11 rfl) ?_; refine .m ?_; refine .split (n := 18) rfl (fun c18 => ?_) (fun c18 => ?_)
  ·refine .hf c18 ?_; refine .hf c18 ?_; refine .hf c18 ?_; refine .hf c18 ?_; refine .hf c18 ?_; refine .x (OpSem.pickT rfl rfl c18 rfl) ?_; refine .m ?_; refine .hf rfl ?_; refine .hf rfl ?_; refine .hf rfl ?_; refine .hf rfl ?_; refine .hf rfl ?_; refine .x (OpSem.pickT rfl rfl rfl rfl) ?_; refine .a ?_; refine .sq <| .condT rfl rfl ?_; refine .g <| .r <| .a ?_; exact .sq <| .t <| .k <| .t <| .ret rfl (.tmp rfl <| .nil) rfl (Le.i (opCode_5 (fun h => by have := h.2.1; rw [decide_eq_true this] at c18; simp at c18)).symm)
  ·have s2 : SetP n o.add := by simpa using c18
   refine .ht c18 ?_; refine .x (.f fo41_2) ?_; refine .ht c18 ?_; refine .x (.l vs22) ?_; refine .ht c18 ?_; refine .m ?_; refine .ht c18 ?_; refine .x (OpSem.call0 (strips_IsSet_does o.del n) rfl rfl rfl rfl (Les.refl _)) ?_; refine .ht c18 ?_; refine .x .nt ?_; refine .x (OpSem.pickF rfl rfl c18 rfl) ?_; refine .m ?_; refine .split (n := 25) rfl (fun c25 => ?_) (fun c25 => ?_)
   ·refine .hf c25 ?_; refine .hf c25 ?_; refine .hf c25 ?_; refine .hf c25 ?_; refine .hf c25 ?_; refine .x (OpSem.pickT rfl rfl c25 rfl) ?_; refine .a ?_; refine .sq <| .condT rfl rfl ?_; refine .g <| .r <| .a ?_; exact .sq <| .t <| .k <| .t <| .ret rfl (.tmp rfl <| .nil) rfl (Le.i (opCode_5 (fun h => by have := h.2.2.1; rw [decide_eq_true this] at c25; simp at c25)).symm)
   ·have s3 : SetP n o.del := by simpa using c25
    refine .ht c25 ?_; refine .x (.f fo41_1) ?_; refine .ht c25 ?_; refine .x (.l vs22) ?_; refine .ht c25 ?_; refine .x (.f fo41_2) ?_; refine .ht c25 ?_; refine .x (.l vs22) ?_; refine .ht c25 ?_; refine .x (OpSem.call0 (strips_Meets_does o.add o.del (setP_sorted s3) (setP_len s3 hn)) rfl rfl rfl rfl (Les.refl _)) ?_; refine .x (OpSem.pickF rfl rfl c25 rfl) ?_; refine .a ?_; refine .sq <| .cond rfl (fun c5 => ?_) (fun c5 => ?_)
    ·refine .g <| .r <| .a ?_; exact .sq <| .t <| .k <| .t <| .ret rfl (.tmp rfl <| .nil) rfl (Le.i (opCode_5 (fun h => any_disj c5 h.2.2.2)).symm)
    ·have s4 : DisjP o.add o.del := disj_any (by simpa using c5)
     have sA := And.intro s1 (And.intro s2 (And.intro s3 s4))
     refine .g <| .r <| .x (.f fo41_3) ?_; refine .x (.l vs3) ?_; refine .x (.b blss) ?_; refine .m ?_; refine .split (n := 36) rfl (fun c36 => ?_) (fun c36 => ?_)
     ·refine .hf c36 ?_; refine .hf c36 ?_; refine .hf c36 ?_; refine .x (OpSem.pickT rfl rfl c36 rfl) ?_; refine .a ?_; refine .sq <| .condT rfl rfl ?_; refine .g <| .r <| .a ?_; exact .sq <| .t <| .k <| .t <| .ret rfl (.tmp rfl <| .nil) rfl (Le.i (opCode_3 sA (by simp at c36; omega)).symm)
     ·refine .ht c36 ?_; refine .x (.f fo41_3) ?_; refine .ht c36 ?_; refine .x (.l vs3) ?_; refine .ht c36 ?_; refine .x (.b bgtr) ?_; refine .x (OpSem.pickF rfl rfl c36 rfl) ?_; refine .a ?_; refine .sq <| .cond rfl (fun c32 => ?_) (fun c32 => ?_)
      ·refine .g <| .r <| .a ?_; exact .sq <| .t <| .k <| .t <| .ret rfl (.tmp rfl <| .nil) rfl (Le.i (opCode_3 sA (by simp at c32; omega)).symm)
      ·refine .p <| .n <| .z <| .a ?_; exact .sq <| .t <| .ret rfl (.tmp rfl <| .nil) rfl (Le.i (opCode_0 sA (by simp at c36 c32; omega)).symm)
theorem strips_Validate_does (t : Tsk) : Does Tryz.prog false 46 [tskS t] (flt (tskF t)) := by
 refine Does.of_body Tryz.func46 rfl rfl (by simp) Tryz.call46 (fun w0 O0 => ?_); refine .lg 0 1 fun len0_1 => ?_; refine .lg 0 2 fun len0_2 => ?_; refine .lg 0 3 fun len0_3 => ?_; refine .g <| .r <| .bx 1 ?_; refine .al 2 zc28 ?_; refine .sq <| .g <| .k <| .g <| .r <| .x (.f fo25_0) ?_; refine .x (.l vs3) ?_; refine .x (.b blss) ?_; refine .m ?_; refine .split (n := 10) rfl (fun c10 => ?_) (fun c10 => ?_)
 ·refine .hf c10 ?_; refine .hf c10 ?_; refine .hf c10 ?_; refine .x (OpSem.pickT rfl rfl c10 rfl) ?_; refine .a ?_; refine .sq <| .condT rfl rfl ?_; refine .g <| .r <| .x (.bd pl28 zc28) ?_; refine .sb vs28 ?_; exact .sq <| .t <| .k <| .t <| .ret rfl (.cellN rfl rfl vs28 <| .nil) rfl (Le.flt (tskF_1 (by simp at c10; omega)))
 ·refine .ht c10 ?_; refine .x (.f fo25_0) ?_; refine .ht c10 ?_; refine .x (.l vs3) ?_; refine .ht c10 ?_; refine .x (.b bgtr) ?_; refine .x (OpSem.pickF rfl rfl c10 rfl) ?_; refine .a ?_; refine .sq <| .cond rfl (fun c6 => ?_) (fun c6 => ?_)
  ·refine .g <| .r <| .x (.bd pl28 zc28) ?_; refine .sb vs28 ?_; exact .sq <| .t <| .k <| .t <| .ret rfl (.cellN rfl rfl vs28 <| .nil) rfl (Le.flt (tskF_1 (by simp at c6; omega)))
  ·have s1 : ¬ (t.facts < 0 ∨ 24 < t.facts) := by simp at c10 c6; omega
   refine .g <| .r <| .x (.f fo25_1) ?_; refine .x (.l vs22) ?_; refine .x (.f fo25_0) ?_; refine .x (.l vs3) ?_; refine .x (OpSem.call0 (strips_IsSet_does t.ini t.facts) rfl rfl rfl rfl (Les.refl _)) ?_; refine .x .nt ?_; refine .a ?_; refine .sq <| .cond rfl (fun c16 => ?_) (fun c16 => ?_)
   ·refine .g <| .r <| .x (.bd pl28 zc28) ?_; refine .sb vs28 ?_; exact .sq <| .t <| .k <| .t <| .ret rfl (.cellN rfl rfl vs28 <| .nil) rfl (Le.flt (tskF_2 s1 (by simpa using c16)))
   ·have s2 : SetP t.facts t.ini := by simpa using c16
    refine .g <| .r <| .x (.f fo25_2) ?_; refine .x (.l vs22) ?_; refine .x (.f fo25_0) ?_; refine .x (.l vs3) ?_; refine .x (OpSem.call0 (strips_IsSet_does t.goal t.facts) rfl rfl rfl rfl (Les.refl _)) ?_; refine .x .nt ?_; refine .a ?_; refine .sq <| .cond rfl (fun c24 => ?_) (fun c24 => ?_)
    ·refine .g <| .r <| .x (.bd pl28 zc28) ?_; refine .sb vs28 ?_; exact .sq <| .t <| .k <| .t <| .ret rfl (.cellN rfl rfl vs28 <| .nil) rfl (Le.flt (tskF_3 s1 s2 (by simpa using c24)))
    ·have s3 : SetP t.facts t.goal := by simpa using c24
     refine .g <| .r <| .x (.f fo25_3) ?_; refine .x (.l vs23) ?_; refine .x (.n es23) ?_; refine .x (.b bgtr) ?_; refine .a ?_; refine .sq <| .cond rfl (fun c32 => ?_) (fun c32 => ?_)
     ·refine .g <| .r <| .x (.bd pl28 zc28) ?_; refine .sb vs28 ?_; exact .sq <| .t <| .k <| .t <| .ret rfl (.cellN rfl rfl vs28 <| .nil) rfl (Le.flt (tskF_4 s1 s2 s3 (by simp at c32; omega)))
     ·have s4 : ¬ 40 < t.ops.length := by simp at c32; omega
      refine .p <| .n <| .g <| .g <| .g <| .r <| .x (.f fo25_3) ?_; refine .x (.l vs23) ?_; refine .x (.n es23) ?_; refine .m ?_; refine .sq <| .k <| .loop (X := Nat) (fun k => k ≤ t.ops.length ∧ ∀ i : Nat, i < k → opCode t.facts (nth t.ops i) = 0) (fun k => [(1, .r 1 0), (2, .r 2 0), (39, .d (sopsD t.ops)), (40, I (t.ops.length)), (41, I (k))]) (fun k => [(1, .box [I (t.facts), .d (ints t.ini), .d (ints t.goal), .d (sopsD t.ops)]), (2, .box [I (0), I (0)])]) (fun k => t.ops.length - k) 0 ⟨by omega, by simp⟩ ?_ ?_
      ·exact .p3 <| .sl <| .slot rfl (Le.of_eq (by simp)) <| .all
      ·rintro k ⟨hkl, hinv⟩
       refine .g <| .r <| .x (.b blss) ?_; refine .sq <| .g <| .cond rfl (fun c42 => ?_) (fun c42 => ?_)
       ·have hk : k < t.ops.length := by simpa using c42
        refine .p <| .g <| .g <| .k <| .g <| .r <| .m ?_; refine .x (.i es23) ?_; refine .x (.lN vs41) ?_; refine .al 4 zc41 ?_; refine .a ?_; refine .sb vs41 ?_; refine .z <| .x (.L vs41) ?_; refine .x (.f fo25_0) ?_; refine .x (.l vs3) ?_; refine .x (OpSem.call0 (strips_operator_does (nth t.ops k) t.facts (by omega) (by omega)) rfl rfl rfl rfl (Les.refl _)) ?_; refine .a ?_; refine .z <| .m ?_; refine .x (.b bneq) ?_; refine .sq <| .cond rfl (fun c51 => ?_) (fun c51 => ?_)
        ·have hb0 : opCode t.facts (nth t.ops k) ≠ 0 := by simpa using c51
         refine .g <| .r <| .mm ?_; refine .x (.bd pl28 zc28) ?_; refine .sb vs28 ?_; exact .sq <| .t <| .k <| .t <| .t <| .k <| .t <| .ret rfl (.cellN rfl rfl vs28 <| .nil) rfl (Le.flt (by rw [tskF_5 s1 s2 s3 s4]; exact sops_bad hk hinv hb0))
        ·have hb : opCode t.facts (nth t.ops k) = 0 := by simpa using c51
         refine .p <| .n <| .y <| .x .ad ?_; refine .m ?_; refine .n <| .again (k + 1) ⟨by omega, all_succ hinv hb⟩ ?_ (by omega); exact .p3 <| .sl <| .slot rfl (Le.of_eq (by simp)) <| .all
       ·have hk : k = t.ops.length := by simp at c42; omega
        refine .u <| .u <| .u <| .b <| .z <| .x (.bd pl28 zc28) ?_; refine .sb vs28 ?_; exact .sq <| .t <| .ret rfl (.cellN rfl rfl vs28 <| .nil) rfl (Le.flt (by rw [tskF_5 s1 s2 s3 s4]; subst hk; exact (sops_all hinv).symm))
theorem R_Disjoint_does (a b : List Int) : Does Tryz.prog false 43 [.d (ints a), .d (ints b)] (Bo (decide (DisjP a b))) := by
 refine Does.of_body Tryz.func43 rfl rfl (by simp) Tryz.call43 (fun w0 O0 => ?_); refine .le 0 fun len0 => ?_; refine .le 1 fun len1 => ?_; refine .g <| .r <| .a ?_; refine .sq <| .g <| .g <| .r <| .a ?_; refine .sq <| .k <| .loop (X := Nat) (fun k => k ≤ a.length ∧ ∀ i : Nat, i < k → nth a i ∉ b) (fun k => [(0, .d (ints a)), (1, .d (ints b)), (5, I (k))]) (fun k => []) (fun k => a.length - k) 0 ⟨by omega, by simp⟩ ?_ ?_
 ·exact .p2 <| .slot rfl (Le.of_eq (by simp)) <| .nil
 ·rintro k ⟨hkl, hinv⟩
  refine .g <| .g <| .r <| .mm ?_; refine .x (.n es22) ?_; refine .x (.b blss) ?_; refine .sq <| .cond rfl (fun c9 => ?_) (fun c9 => ?_)
  ·have hk : k < a.length := by simpa using c9
   refine .p <| .g <| .g <| .k <| .g <| .r <| .mm ?_; refine .m ?_; refine .x (.i es22) ?_; refine .x (.l1 vs3) ?_; refine .x (OpSem.call0 (R_Has_does b (nth a k)) rfl rfl rfl rfl (Les.refl _)) ?_; refine .sq <| .cond rfl (fun c17 => ?_) (fun c17 => ?_)
   ·have hb : nth a k ∈ b := of_decide_eq_true c17
    refine .g <| .r <| .a ?_; exact .sq <| .t <| .k <| .t <| .t <| .k <| .t <| .ret rfl (.tmp rfl <| .nil) rfl (Le.bo (decide_eq_false (fun h => h k hk hb)).symm)
   ·have hb : nth a k ∉ b := of_decide_eq_false c17
    refine .p <| .n <| .y <| .m ?_; refine .x .ad ?_; refine .a ?_; refine .n <| .again (k + 1) ⟨by omega, all_succ hinv hb⟩ ?_ (by omega); exact .p2 <| .slot rfl (Le.of_eq (by simp)) <| .nil
  ·have hk : k = a.length := by simp at c9; omega
   refine .u <| .u <| .u <| .b <| .z <| .a ?_; exact .sq <| .t <| .ret rfl (.tmp rfl <| .nil) rfl (Le.bo (decide_eq_true (by subst hk; exact hinv)).symm)
theorem R_TaskFault_does (t : Tsk) : Does Tryz.prog false 16 [tskS t] (flt (tskF t)) := by
 refine Does.of_body Tryz.func16 rfl rfl (by simp) Tryz.call16 (fun w0 O0 => ?_); refine .lg 0 1 fun len0_1 => ?_; refine .lg 0 2 fun len0_2 => ?_; refine .lg 0 3 fun len0_3 => ?_; refine .g <| .r <| .bx 1 ?_; refine .al 2 zc28 ?_; refine .sq <| .g <| .g <| .r <| .x (.f fo25_0) ?_; refine .x (.l vs3) ?_; refine .x (OpSem.call0 (R_In_does ..) rfl rfl rfl rfl (Les.refl _)) ?_; refine .x .nt ?_; refine .sq <| .cond rfl (fun c8 => ?_) (fun c8 => ?_)
 ·refine .g <| .r <| .x (OpSem.call0 (R_At_does ..) rfl rfl rfl rfl (Les.refl _)) ?_; refine .sb vs28 ?_; exact .sq <| .t <| .t <| .ret rfl (.cellN rfl rfl vs28 <| .nil) rfl (Le.flt (tskF_1 (by simp at c8; omega)))
 ·have s1 : ¬ (t.facts < 0 ∨ 24 < t.facts) := by simp at c8; omega
  refine .p <| .g <| .g <| .g <| .r <| .x (.f fo25_1) ?_; refine .x (.l vs22) ?_; refine .x (.f fo25_0) ?_; refine .x (.l vs3) ?_; refine .x (OpSem.call0 (R_IsSet_does t.ini t.facts (by omega)) rfl rfl rfl rfl (Les.refl _)) ?_; refine .x .nt ?_; refine .sq <| .cond rfl (fun c15 => ?_) (fun c15 => ?_)
  ·refine .g <| .r <| .x (OpSem.call0 (R_At_does ..) rfl rfl rfl rfl (Les.refl _)) ?_; refine .sb vs28 ?_; exact .sq <| .t <| .t <| .ret rfl (.cellN rfl rfl vs28 <| .nil) rfl (Le.flt (tskF_2 s1 (by simpa using c15)))
  ·have s2 : SetP t.facts t.ini := by simpa using c15
   refine .p <| .g <| .g <| .g <| .r <| .x (.f fo25_2) ?_; refine .x (.l vs22) ?_; refine .x (.f fo25_0) ?_; refine .x (.l vs3) ?_; refine .x (OpSem.call0 (R_IsSet_does t.goal t.facts (by omega)) rfl rfl rfl rfl (Les.refl _)) ?_; refine .x .nt ?_; refine .sq <| .cond rfl (fun c22 => ?_) (fun c22 => ?_)
   ·refine .g <| .r <| .x (OpSem.call0 (R_At_does ..) rfl rfl rfl rfl (Les.refl _)) ?_; refine .sb vs28 ?_; exact .sq <| .t <| .t <| .ret rfl (.cellN rfl rfl vs28 <| .nil) rfl (Le.flt (tskF_3 s1 s2 (by simpa using c22)))
   ·have s3 : SetP t.facts t.goal := by simpa using c22
    refine .p <| .g <| .g <| .g <| .r <| .x (.f fo25_3) ?_; refine .x (.l vs23) ?_; refine .x (.n es23) ?_; refine .x (.b bgtr) ?_; refine .sq <| .cond rfl (fun c27 => ?_) (fun c27 => ?_)
    ·refine .g <| .r <| .x (OpSem.call0 (R_At_does ..) rfl rfl rfl rfl (Les.refl _)) ?_; refine .sb vs28 ?_; exact .sq <| .t <| .t <| .ret rfl (.cellN rfl rfl vs28 <| .nil) rfl (Le.flt (tskF_4 s1 s2 s3 (by simp at c27; omega)))
    ·have s4 : ¬ 40 < t.ops.length := by simp at c27; omega
     refine .p <| .g <| .g <| .g <| .r <| .a ?_; refine .sq <| .k <| .loop (X := Nat) (fun k => k ≤ t.ops.length ∧ ∀ i : Nat, i < k → opCode t.facts (nth t.ops i) = 0) (fun k => [(1, .r 1 0), (2, .r 2 0), (3, I (k))]) (fun k => [(1, .box [I (t.facts), .d (ints t.ini), .d (ints t.goal), .d (sopsD t.ops)]), (2, .box [I (0), I (0)])]) (fun k => t.ops.length - k) 0 ⟨by omega, by simp⟩ ?_ ?_
     ·exact .p2 <| .slot rfl (Le.of_eq (by simp)) <| .all
     ·rintro k ⟨hkl, hinv⟩
      refine .g <| .g <| .r <| .m ?_; refine .x (.f fo25_3) ?_; refine .x (.l vs23) ?_; refine .x (.n es23) ?_; refine .x (.b blss) ?_; refine .sq <| .cond rfl (fun c33 => ?_) (fun c33 => ?_)
      ·have hk : k < t.ops.length := by simpa using c33
       refine .p <| .g <| .g <| .k <| .g <| .r <| .x (.f fo25_3) ?_; refine .x (.l vs23) ?_; refine .m ?_; refine .x (.i es23) ?_; refine .x (.lN vs41) ?_; refine .al 4 zc41 ?_; refine .sb vs41 ?_; refine .sq <| .g <| .g <| .r <| .x (.f fo41_0) ?_; refine .x (.l vs22) ?_; refine .x (.f fo25_0) ?_; refine .x (.l vs3) ?_; refine .x (OpSem.call0 (R_IsSet_does (nth t.ops k).pre t.facts (by omega)) rfl rfl rfl rfl (Les.refl _)) ?_; refine .x .nt ?_; refine .m ?_; refine .split (n := 47) rfl (fun c47 => ?_) (fun c47 => ?_)
       ·have hb0 : opCode t.facts (nth t.ops k) = 5 := opCode_5 (fun h => by have := h.1; rw [decide_eq_true this] at c47; simp at c47)
        refine .hf c47 ?_; refine .hf c47 ?_; refine .hf c47 ?_; refine .hf c47 ?_; refine .hf c47 ?_; refine .hf c47 ?_; refine .x (OpSem.pickT rfl rfl c47 rfl) ?_; refine .m ?_; refine .hf rfl ?_; refine .hf rfl ?_; refine .hf rfl ?_; refine .hf rfl ?_; refine .hf rfl ?_; refine .hf rfl ?_; refine .x (OpSem.pickT rfl rfl rfl rfl) ?_; refine .m ?_; refine .hf rfl ?_; refine .hf rfl ?_; refine .hf rfl ?_; refine .hf rfl ?_; refine .hf rfl ?_; refine .hf rfl ?_; refine .x (OpSem.pickT rfl rfl rfl rfl) ?_; refine .sq <| .condT rfl rfl ?_; refine .g <| .r <| .m ?_; refine .x (OpSem.call0 (R_At_does ..) rfl rfl rfl rfl (Les.refl _)) ?_; refine .sb vs28 ?_; exact .sq <| .t <| .t <| .k <| .t <| .t <| .k <| .t <| .ret rfl (.cellN rfl rfl vs28 <| .nil) rfl (Le.flt (by rw [tskF_5 s1 s2 s3 s4, ← sops_bad hk hinv (by rw [hb0]; decide), hb0]))
       ·have q1 : SetP t.facts (nth t.ops k).pre := by simpa using c47
        refine .ht c47 ?_; refine .x (.f fo41_1) ?_; refine .ht c47 ?_; refine .x (.l vs22) ?_; refine .ht c47 ?_; refine .x (.f fo25_0) ?_; refine .ht c47 ?_; refine .x (.l vs3) ?_; refine .ht c47 ?_; refine .x (OpSem.call0 (R_IsSet_does (nth t.ops k).add t.facts (by omega)) rfl rfl rfl rfl (Les.refl _)) ?_; refine .ht c47 ?_; refine .x .nt ?_; refine .x (OpSem.pickF rfl rfl c47 rfl) ?_; refine .m ?_; refine .split (n := 55) rfl (fun c55 => ?_) (fun c55 => ?_)
        ·have hb0 : opCode t.facts (nth t.ops k) = 5 := opCode_5 (fun h => by have := h.2.1; rw [decide_eq_true this] at c55; simp at c55)
         refine .hf c55 ?_; refine .hf c55 ?_; refine .hf c55 ?_; refine .hf c55 ?_; refine .hf c55 ?_; refine .hf c55 ?_; refine .x (OpSem.pickT rfl rfl c55 rfl) ?_; refine .m ?_; refine .hf rfl ?_; refine .hf rfl ?_; refine .hf rfl ?_; refine .hf rfl ?_; refine .hf rfl ?_; refine .hf rfl ?_; refine .x (OpSem.pickT rfl rfl rfl rfl) ?_; refine .sq <| .condT rfl rfl ?_; refine .g <| .r <| .m ?_; refine .x (OpSem.call0 (R_At_does ..) rfl rfl rfl rfl (Les.refl _)) ?_; refine .sb vs28 ?_; exact .sq <| .t <| .t <| .k <| .t <| .t <| .k <| .t <| .ret rfl (.cellN rfl rfl vs28 <| .nil) rfl (Le.flt (by rw [tskF_5 s1 s2 s3 s4, ← sops_bad hk hinv (by rw [hb0]; decide), hb0]))
        ·have q2 : SetP t.facts (nth t.ops k).add := by simpa using c55
         refine .ht c55 ?_; refine .x (.f fo41_2) ?_; refine .ht c55 ?_; refine .x (.l vs22) ?_; refine .ht c55 ?_; refine .x (.f fo25_0) ?_; refine .ht c55 ?_; refine .x (.l vs3) ?_; refine .ht c55 ?_; refine .x (OpSem.call0 (R_IsSet_does (nth t.ops k).del t.facts (by omega)) rfl rfl rfl rfl (Les.refl _)) ?_; refine .ht c55 ?_; refine .x .nt ?_; refine .x (OpSem.pickF rfl rfl c55 rfl) ?_; refine .m ?_; refine .split (n := 63) rfl (fun c63 => ?_) (fun c63 => ?_)
         ·have hb0 : opCode t.facts (nth t.ops k) = 5 := opCode_5 (fun h => by have := h.2.2.1; rw [decide_eq_true this] at c63; simp at c63)
          refine .hf c63 ?_; refine .hf c63 ?_; refine .hf c63 ?_; refine .hf c63 ?_; refine .hf c63 ?_; refine .hf c63 ?_; refine .x (OpSem.pickT rfl rfl c63 rfl) ?_; refine .sq <| .condT rfl rfl ?_; refine .g <| .r <| .m ?_; refine .x (OpSem.call0 (R_At_does ..) rfl rfl rfl rfl (Les.refl _)) ?_; refine .sb vs28 ?_; exact .sq <| .t <| .t <| .k <| .t <| .t <| .k <| .t <| .ret rfl (.cellN rfl rfl vs28 <| .nil) rfl (Le.flt (by rw [tskF_5 s1 s2 s3 s4, ← sops_bad hk hinv (by rw [hb0]; decide), hb0]))
         ·have q3 : SetP t.facts (nth t.ops k).del := by simpa using c63
          refine .ht c63 ?_; refine .x (.f fo41_1) ?_; refine .ht c63 ?_; refine .x (.l vs22) ?_; refine .ht c63 ?_; refine .x (.f fo41_2) ?_; refine .ht c63 ?_; refine .x (.l vs22) ?_; refine .ht c63 ?_; refine .x (OpSem.call0 (R_Disjoint_does (nth t.ops k).add (nth t.ops k).del) rfl rfl rfl rfl (Les.refl _)) ?_; refine .ht c63 ?_; refine .x .nt ?_; refine .x (OpSem.pickF rfl rfl c63 rfl) ?_; refine .sq <| .cond rfl (fun c70 => ?_) (fun c70 => ?_)
          ·have hb0 : opCode t.facts (nth t.ops k) = 5 := opCode_5 (fun h => by have := h.2.2.2; rw [decide_eq_true this] at c70; simp at c70)
           refine .g <| .r <| .m ?_; refine .x (OpSem.call0 (R_At_does ..) rfl rfl rfl rfl (Les.refl _)) ?_; refine .sb vs28 ?_; exact .sq <| .t <| .t <| .k <| .t <| .t <| .k <| .t <| .ret rfl (.cellN rfl rfl vs28 <| .nil) rfl (Le.flt (by rw [tskF_5 s1 s2 s3 s4, ← sops_bad hk hinv (by rw [hb0]; decide), hb0]))
          ·have q4 : DisjP (nth t.ops k).add (nth t.ops k).del := by simpa using c70
           have qA := And.intro q1 (And.intro q2 (And.intro q3 q4))
           refine .p <| .z <| .x (.f fo41_3) ?_; refine .x (.l vs3) ?_; refine .x (OpSem.call0 (R_In_does ..) rfl rfl rfl rfl (Les.refl _)) ?_; refine .x .nt ?_; refine .sq <| .cond rfl (fun c76 => ?_) (fun c76 => ?_)
           ·have hb0 : opCode t.facts (nth t.ops k) = 3 := opCode_3 qA (by simp at c76; omega)
            refine .g <| .r <| .m ?_; refine .x (OpSem.call0 (R_At_does ..) rfl rfl rfl rfl (Les.refl _)) ?_; refine .sb vs28 ?_; exact .sq <| .t <| .k <| .t <| .t <| .k <| .t <| .ret rfl (.cellN rfl rfl vs28 <| .nil) rfl (Le.flt (by rw [tskF_5 s1 s2 s3 s4, ← sops_bad hk hinv (by rw [hb0]; decide), hb0]))
           ·have hb : opCode t.facts (nth t.ops k) = 0 := opCode_0 qA (by simp at c76; omega)
            refine .p <| .n <| .y <| .m ?_; refine .x .ad ?_; refine .a ?_; refine .n <| .again (k + 1) ⟨by omega, all_succ hinv hb⟩ ?_ (by omega); exact .p2 <| .slot rfl (Le.of_eq (by simp)) <| .all
      ·have hk : k = t.ops.length := by simp at c33; omega
       refine .u <| .u <| .u <| .b <| .z <| .x (.bd pl28 zc28) ?_; refine .sb vs28 ?_; exact .sq <| .t <| .ret rfl (.cellN rfl rfl vs28 <| .nil) rfl (Le.flt (by rw [tskF_5 s1 s2 s3 s4]; subst hk; exact (sops_all hinv).symm))
end Go.Proofs.YthjmgcopfipabaaGreat
end

section
namespace Go.Eng
open Go
section
variable {a b : Abs} {c : List Int}
end
end Go.Eng
end

section
namespace Go.Eng
open Go
def dt (a : Abs) (d : List Bool) (u v : Int) : Bool := nth d (u * a.states + v)
def mark (a : Abs) (d : List Bool) (x y : Int) : List Bool := setI (setI d (x * a.states + y) true) (y * a.states + x) true
section
variable {a : Abs} (ha : AbsOk a)
include ha
def mMu (s : List Bool × Bool) : Nat := 2 * openN s.1 + (if s.2 = true then 1 else 0)
omit ha in
theorem set2_get {l : List Bool} {i j : Int} {c v : Bool} (h0 : 0 ≤ j) (h1 : j < l.length) : ((l.map fun b => [D.v (.bool b)]).set i.toNat ([D.v (.bool c)].set 0 (D.v (.bool v))))[j.toNat]? = some [D.v (.bool (nth (setI l i v) j))] := by
 have : ((l.map fun b => [D.v (.bool b)]).set i.toNat ([D.v (.bool c)].set 0 (D.v (.bool v)))) = (setI l i v).map fun b => [D.v (.bool b)] := by simp [setI, List.map_set]
 rw [this]
 exact rows_get h0 (by rw [setI_len]; exact h1)
omit ha in
theorem mark_rows {d : List Bool} {x y : Int} {c c' : Bool} : (((d.map fun b => [D.v (.bool b)]).set (x * a.states + y).toNat ([D.v (.bool c)].set 0 (D.v (.bool true)))).set (y * a.states + x).toNat ([D.v (.bool c')].set 0 (D.v (.bool true)))) = (mark a d x y).map fun b => [D.v (.bool b)] := by
 unfold mark setI; simp [List.map_set]
def gdf (a : Abs) (u v : Int) : Bool := !(decide (u ∈ a.goals) == decide (v ∈ a.goals))
def dfTo (a : Abs) (m : Nat) : List Bool := (List.range (nS a * nS a)).map fun (i : Nat) => decide (i < m) && gdf a ((i : Int) / a.states) ((i : Int) % a.states)
omit ha in
theorem dfTo_len {m : Nat} : (dfTo a m).length = nS a * nS a := by simp [dfTo]
omit ha in
theorem dfTo_0 : dfTo a 0 = List.replicate (nS a * nS a) false := by
 apply List.ext_getElem (by simp [dfTo])
 intro i h1 h2; simp [dfTo]
end
end Go.Eng
end

section
namespace Go.Eng
open Go
inductive Rch (t : Tsk) (s : List Int) (use : Nat → Bool) : Int → Prop
 | base {p : Int} : p ∈ s → Rch t s use p
 | op {i : Nat} {p : Int} : i < t.ops.length → use i = true → (∀ q, q ∈ (nth t.ops i).pre → Rch t s use q) → p ∈ (nth t.ops i).add → Rch t s use p
open Classical in
noncomputable def cloL (t : Tsk) (s : List Int) (use : Nat → Bool) : List Bool := (List.range t.facts.toNat).map fun (p : Nat) => decide (Rch t s use p)
theorem cloL_len {t : Tsk} {s : List Int} {use : Nat → Bool} : (cloL t s use).length = t.facts.toNat := by simp [cloL]
open Classical in
theorem cloL_at {t : Tsk} {s : List Int} {use : Nat → Bool} {p : Int} (h0 : 0 ≤ p) (h1 : p < t.facts) : nth (cloL t s use) p = true ↔ Rch t s use p := by
 obtain ⟨n, rfl⟩ := Int.eq_ofNat_of_zero_le h0
 rw [nth_eq (by rw [cloL_len]; omega)]
 simp [cloL]
def AllP (d : List Bool) (l : List Int) : Prop := ∀ k : Nat, k < l.length → nth d (nth l k) = true
instance {d : List Bool} {l : List Int} : Decidable (AllP d l) := by unfold AllP; exact inferInstance
def addTo2 (l : List Int) (s : List Bool × Bool) : Nat → List Bool × Bool
 | 0 => s
 | j + 1 => (setI (addTo2 l s j).1 (nth l j) true, (addTo2 l s j).2 || !(nth (addTo2 l s j).1 (nth l j)))
def clS (t : Tsk) (use : Nat → Bool) (s : List Bool × Bool) (i : Nat) : List Bool × Bool :=
 if use i = true ∧ AllP s.1 (nth t.ops i).pre then addTo2 (nth t.ops i).add s (nth t.ops i).add.length else s
def clTo (t : Tsk) (use : Nat → Bool) (s : List Bool × Bool) : Nat → List Bool × Bool
 | 0 => s
 | i + 1 => clS t use (clTo t use s i) i
def mkTo (n : Nat) (l : List Int) : Nat → List Bool
 | 0 => List.replicate n false
 | k + 1 => setI (mkTo n l k) (nth l k) true
theorem mkTo_len {n : Nat} {l : List Int} : ∀ {k : Nat}, (mkTo n l k).length = n
 | 0 => by simp [mkTo]
 | k + 1 => by simp only [mkTo]; rw [setI_len, mkTo_len]
theorem setI_true {d : List Bool} {x y : Int} (h0 : 0 ≤ x) (h1 : x < d.length) (hy : 0 ≤ y) : nth (setI d y true) x = true ↔ x = y ∨ nth d x = true := by
 rw [nth_setI h0 h1 hy]
 by_cases h : x = y <;> simp [h]
theorem mkTo_at {n : Nat} {l : List Int} {x : Int} (hl : ∀ k : Nat, k < l.length → 0 ≤ nth l k) (h0 : 0 ≤ x) (h1 : x < n) : ∀ {k : Nat}, k ≤ l.length → (nth (mkTo n l k) x = true ↔ ∃ i : Nat, i < k ∧ nth l i = x)
 | 0, _ => by
  obtain ⟨m, rfl⟩ := Int.eq_ofNat_of_zero_le h0
  rw [nth_eq (by rw [mkTo_len]; omega)]
  simp [mkTo]
 | k + 1, hk => by
  have ih := mkTo_at hl h0 h1 (k := k) (by omega)
  simp only [mkTo]
  rw [setI_true h0 (by rw [mkTo_len]; exact h1) (hl k (by omega)), ih]
  constructor
  ·rintro (rfl | ⟨i, hi, h⟩)
   ·exact ⟨k, by omega, rfl⟩
   ·exact ⟨i, by omega, h⟩
  ·rintro ⟨i, hi, h⟩
   by_cases e : i = k
   ·subst e; exact .inl h.symm
   ·exact .inr ⟨i, by omega, h⟩
structure KInv (t : Tsk) (s : List Int) (use : Nat → Bool) (d : List Bool) : Prop where
 len : d.length = t.facts.toNat
 base : ∀ p, p ∈ s → nth d p = true
 snd : ∀ p : Int, 0 ≤ p → p < t.facts → nth d p = true → Rch t s use p
def TskOk (t : Tsk) : Prop := (0 ≤ t.facts ∧ t.facts ≤ 24) ∧ ∀ i : Nat, i < t.ops.length → (SetP t.facts (nth t.ops i).pre ∧ SetP t.facts (nth t.ops i).add ∧ SetP t.facts (nth t.ops i).del)
section
variable {t : Tsk} {s : List Int} {use : Nat → Bool}
theorem addTo2_inv {l : List Int} {d : List Bool × Bool} (hl : ∀ k : Nat, k < l.length → 0 ≤ nth l k ∧ nth l k < t.facts) (hr : ∀ p, p ∈ l → Rch t s use p) (h : KInv t s use d.1) (hs : ∀ p, p ∈ s → 0 ≤ p ∧ p < t.facts) : ∀ {j : Nat}, j ≤ l.length → KInv t s use (addTo2 l d j).1 ∧ openN (addTo2 l d j).1 ≤ openN d.1 ∧ ((addTo2 l d j).2 = true → d.2 = true ∨ openN (addTo2 l d j).1 < openN d.1)
 | 0, _ => ⟨h, Nat.le_refl _, .inl⟩
 | j + 1, hj => by
  obtain ⟨i1, i2, i3⟩ := addTo2_inv hl hr h hs (j := j) (by omega)
  have hb := hl j (by omega)
  have hlen := i1.len
  have hle : openN (setI (addTo2 l d j).1 (nth l j) true) ≤ openN (addTo2 l d j).1 := by
   have : ∀ {s : List Bool} {i : Nat}, openN (s.set i true) ≤ openN s := by
    intro s
    induction s with
    | nil => intro i; simp
    | cons b s ih =>
     intro i
     cases i with
     | zero => simp only [openN, List.set_cons_zero, List.filter_cons]; cases b <;> simp
     | succ i =>
      have := ih (i := i)
      simp only [openN, List.set_cons_succ, List.filter_cons] at this ⊢
      cases b <;> simp <;> exact this
   exact this
  refine ⟨⟨by show (setI _ _ _).length = _; rw [setI_len]; exact hlen, fun p hp => ?_, fun p h0 h1 hp => ?_⟩, Nat.le_trans hle i2, fun hc => ?_⟩
  ·have := hs p hp
   exact (setI_true this.1 (by omega) hb.1).2 (.inr (i1.base p hp))
  ·rcases (setI_true h0 (by omega) hb.1).1 hp with rfl | hp
   ·exact hr _ (nth_mem (by omega) (by omega))
   ·exact i1.snd p h0 h1 hp
  ·have hc : ((addTo2 l d j).2 || !(nth (addTo2 l d j).1 (nth l j))) = true := hc
   rw [Bool.or_eq_true] at hc
   rcases hc with hc | hc
   ·rcases i3 hc with q | q
    ·exact .inl q
    ·exact .inr (Nat.lt_of_le_of_lt hle q)
   ·right
    obtain ⟨m, hm⟩ := Int.eq_ofNat_of_zero_le hb.1
    have hml : m < (addTo2 l d j).1.length := by omega
    have hf : (addTo2 l d j).1[m] = false := by
     have : nth (addTo2 l d j).1 (nth l j) = false := by simpa using hc
     rw [hm, nth_eq hml] at this; exact this
    have := openN_set hml hf
    refine Nat.lt_of_lt_of_le ?_ i2
    show openN (setI _ (nth l j) true) < _
    rw [hm]
    exact this
theorem setI_same {d : List Bool} {x : Int} (h0 : 0 ≤ x) (h1 : x < d.length) (h : nth d x = true) : setI d x true = d := by
 obtain ⟨m, rfl⟩ := Int.eq_ofNat_of_zero_le h0
 rw [nth_eq (by omega)] at h
 unfold setI
 apply List.ext_getElem (by simp)
 intro i h2 h3
 rw [List.getElem_set]
 simp only [Int.toNat_natCast]
 by_cases e : m = i
 ·subst e; rw [if_pos rfl]; exact h.symm
 ·rw [if_neg e]
theorem addTo2_f {l : List Int} {d : List Bool × Bool} (hl : ∀ k : Nat, k < l.length → 0 ≤ nth l k ∧ nth l k < t.facts) (hd : d.1.length = t.facts.toNat) : ∀ {j : Nat}, j ≤ l.length → (addTo2 l d j).2 = false → d.2 = false ∧ addTo2 l d j = d ∧ ∀ i : Nat, i < j → nth d.1 (nth l i) = true
 | 0, _, h => ⟨h, rfl, fun i hi => by omega⟩
 | j + 1, hj, h => by
  have h : ((addTo2 l d j).2 || !(nth (addTo2 l d j).1 (nth l j))) = false := h
  rw [Bool.or_eq_false_iff] at h
  obtain ⟨i1, i2, i3⟩ := addTo2_f hl hd (j := j) (by omega) h.1
  have hn : nth d.1 (nth l j) = true := by have := h.2; rw [i2] at this; simpa using this
  have hb := hl j (by omega)
  refine ⟨i1, ?_, fun i hi => ?_⟩
  ·show (setI (addTo2 l d j).1 (nth l j) true, (addTo2 l d j).2 || !(nth (addTo2 l d j).1 (nth l j))) = d
   rw [i2, setI_same hb.1 (by omega) hn, hn, i1]
   simp [← i1]
  ·by_cases e : i = j
   ·subst e; exact hn
   ·exact i3 i (by omega)
theorem pre_rch (ht : TskOk t) {d : List Bool} (h : KInv t s use d) {i : Nat} (hi : i < t.ops.length) (hu : use i = true) (ha : AllP d (nth t.ops i).pre) : ∀ p, p ∈ (nth t.ops i).add → Rch t s use p := fun p hp => by
 refine .op hi hu (fun q hq => ?_) hp
 have hin := setP_mem (ht.2 i hi).1 hq
 obtain ⟨k, hk, rfl⟩ := List.getElem_of_mem hq
 have := ha k hk
 rw [nth_eq hk] at this
 exact h.snd _ hin.1 hin.2 this
theorem set_rng {n : Int} {l : List Int} (h : SetP n l) : ∀ k : Nat, k < l.length → 0 ≤ nth l k ∧ nth l k < n := fun k hk => ⟨(h k hk).1, (h k hk).2.1⟩
theorem clTo_inv (ht : TskOk t) (hs : ∀ p, p ∈ s → 0 ≤ p ∧ p < t.facts) {d : List Bool × Bool} (h : KInv t s use d.1) : ∀ {i : Nat}, i ≤ t.ops.length → KInv t s use (clTo t use d i).1 ∧ openN (clTo t use d i).1 ≤ openN d.1 ∧ ((clTo t use d i).2 = true → d.2 = true ∨ openN (clTo t use d i).1 < openN d.1)
 | 0, _ => ⟨h, Nat.le_refl _, .inl⟩
 | i + 1, hi => by
  obtain ⟨i1, i2, i3⟩ := clTo_inv ht hs h (i := i) (by omega)
  show KInv t s use (clS t use (clTo t use d i) i).1 ∧ openN (clS t use (clTo t use d i) i).1 ≤ _ ∧ ((clS t use (clTo t use d i) i).2 = true → _ ∨ openN (clS t use (clTo t use d i) i).1 < _)
  unfold clS
  by_cases c : use i = true ∧ AllP (clTo t use d i).1 (nth t.ops i).pre
  ·rw [if_pos c]
   obtain ⟨j1, j2, j3⟩ := addTo2_inv (set_rng (ht.2 i (by omega)).2.1) (pre_rch ht i1 (by omega) c.1 c.2) i1 hs (Nat.le_refl _)
   refine ⟨j1, Nat.le_trans j2 i2, fun hh => ?_⟩
   rcases j3 hh with q | q
   ·rcases i3 q with q | q
    ·exact .inl q
    ·exact .inr (Nat.lt_of_le_of_lt j2 q)
   ·exact .inr (Nat.lt_of_lt_of_le q i2)
  ·rw [if_neg c]; exact ⟨i1, i2, i3⟩
theorem clTo_f (ht : TskOk t) {d : List Bool × Bool} (hd : d.1.length = t.facts.toNat) : ∀ {i : Nat}, i ≤ t.ops.length → (clTo t use d i).2 = false → d.2 = false ∧ clTo t use d i = d ∧ ∀ j : Nat, j < i → use j = true → AllP d.1 (nth t.ops j).pre → AllP d.1 (nth t.ops j).add
 | 0, _, h => ⟨h, rfl, fun j hj => by omega⟩
 | i + 1, hi, h => by
  have h : (clS t use (clTo t use d i) i).2 = false := h
  have hs : clTo t use d (i + 1) = clS t use (clTo t use d i) i := rfl
  unfold clS at h hs
  by_cases c : use i = true ∧ AllP (clTo t use d i).1 (nth t.ops i).pre
  ·rw [if_pos c] at h hs
   have hlen : (clTo t use d i).1.length = t.facts.toNat ∨ True := .inr trivial
   by_cases hf : (clTo t use d i).2 = false
   ·obtain ⟨i1, i2, i3⟩ := clTo_f ht hd (i := i) (by omega) hf
    obtain ⟨j1, j2, j3⟩ := addTo2_f (d := clTo t use d i) (set_rng (ht.2 i (by omega)).2.1) (by rw [i2]; exact hd) (Nat.le_refl _) h
    refine ⟨i1, by rw [hs, j2, i2], fun j hj hu hp => ?_⟩
    by_cases e : j = i
    ·subst e; rw [i2] at j3; exact j3
    ·exact i3 j (by omega) hu hp
   ·exfalso
    have key : ∀ (l : List Int) (d : List Bool × Bool) (j : Nat), d.2 = true → (addTo2 l d j).2 = true := by
     intro l d j hd
     induction j with
     | zero => exact hd
     | succ j ih => simp only [addTo2]; rw [ih]; rfl
    rw [key _ _ _ (by simpa using hf)] at h; cases h
  ·rw [if_neg c] at h hs
   obtain ⟨i1, i2, i3⟩ := clTo_f ht hd (i := i) (by omega) h
   refine ⟨i1, hs.trans i2, fun j hj hu hp => ?_⟩
   by_cases e : j = i
   ·subst e; rw [i2] at c; exact absurd ⟨hu, hp⟩ c
   ·exact i3 j (by omega) hu hp
def LInv (t : Tsk) (s : List Int) (use : Nat → Bool) (x : List Bool × Bool) : Prop := KInv t s use x.1 ∧ (x.2 = false → ∀ j : Nat, j < t.ops.length → use j = true → AllP x.1 (nth t.ops j).pre → AllP x.1 (nth t.ops j).add)
theorem lInv_s (ht : TskOk t) (hs : ∀ p, p ∈ s → 0 ≤ p ∧ p < t.facts) {d : List Bool} (h : KInv t s use d) : LInv t s use (clTo t use (d, false) t.ops.length) ∧ mMu (clTo t use (d, false) t.ops.length) < mMu (d, true) := by
 obtain ⟨i1, i2, i3⟩ := clTo_inv ht hs (d := (d, false)) h (Nat.le_refl _)
 refine ⟨⟨i1, fun hf => ?_⟩, ?_⟩
 ·obtain ⟨j1, j2, j3⟩ := clTo_f ht (d := (d, false)) h.len (Nat.le_refl _) hf
  rw [j2]; exact j3
 ·have i2' : openN (clTo t use (d, false) t.ops.length).1 ≤ openN d := i2
  unfold mMu
  cases hb : (clTo t use (d, false) t.ops.length).2 with
  | false => simp; omega
  | true =>
   rcases i3 hb with q | q
   ·cases q
   ·have q' : openN (clTo t use (d, false) t.ops.length).1 < openN d := q
    simp; omega
theorem lInv_0 (hs : ∀ p, p ∈ s → 0 ≤ p ∧ p < t.facts) (h0 : 0 ≤ t.facts) : LInv t s use (mkTo t.facts.toNat s s.length, true) := by
 have hl : ∀ k : Nat, k < s.length → 0 ≤ nth s k := fun k hk => (hs _ (nth_mem (by omega) (by omega))).1
 refine ⟨⟨mkTo_len, fun p hp => ?_, fun p h1 h2 hp => ?_⟩, fun h => nomatch h⟩
 ·have := hs p hp
  obtain ⟨i, hi, he⟩ := List.getElem_of_mem hp
  exact (mkTo_at hl this.1 (by omega) (Nat.le_refl _)).2 ⟨i, hi, by rw [nth_eq hi, he]⟩
 ·obtain ⟨i, hi, he⟩ := (mkTo_at hl h1 (by omega) (Nat.le_refl _)).1 hp
  rw [← he]
  exact .base (nth_mem (by omega) (by omega))
theorem lInv_end (ht : TskOk t) (hs : ∀ p, p ∈ s → 0 ≤ p ∧ p < t.facts) {x : List Bool × Bool} (h : LInv t s use x) (hf : x.2 = false) : x.1 = cloL t s use := by
 obtain ⟨h1, h2⟩ := h
 have h2 := h2 hf
 have key : ∀ p, Rch t s use p → (0 ≤ p ∧ p < t.facts) ∧ nth x.1 p = true := fun p hp => by
  induction hp with
  | base hp => exact ⟨hs _ hp, h1.base _ hp⟩
  | @op i p hi hu hq hp ih =>
   have hin := setP_mem (ht.2 i hi).2.1 hp
   refine ⟨hin, ?_⟩
   have ha := h2 i hi hu (fun k hk => (ih _ (nth_mem (by omega) (by omega))).2)
   obtain ⟨k, hk, rfl⟩ := List.getElem_of_mem hp
   have := ha k hk
   rwa [nth_eq hk] at this
 refine ext_get (by rw [h1.len, cloL_len]) fun i hi => ?_
 have hil : i < t.facts.toNat := by rw [← h1.len]; exact hi
 have hc := cloL_at (t := t) (s := s) (use := use) (p := (i : Int)) (by omega) (by omega)
 cases hd : nth x.1 i with
 | true => exact (hc.2 (h1.snd i (by omega) (by omega) hd)).symm
 | false =>
  cases hd2 : nth (cloL t s use) i with
  | false => rfl
  | true =>
   have := (key i (hc.1 hd2)).2
   rw [hd] at this; cases this
end
end Go.Eng
end

section
namespace Go.Eng
open Go
def useP (t : Tsk) (p : Int) (i : Nat) : Bool := !decide (p ∈ (nth t.ops i).add)
noncomputable def wtoL (t : Tsk) (p : Int) : List Bool := cloL t t.ini (useP t p)
noncomputable def lmP (t : Tsk) (p : Int) : Bool := decide (p ∈ t.ini) || !decide (AllP (wtoL t p) t.goal)
noncomputable def lmTo (t : Tsk) : Nat → List Int
 | 0 => []
 | k + 1 => if lmP t k = true then lmTo t k ++ [(k : Int)] else lmTo t k
noncomputable def lmL (t : Tsk) : List Int := lmTo t t.facts.toNat
noncomputable def acP (t : Tsk) (p : Int) (i : Nat) : Bool := !decide (p ∈ t.ini) && (decide (p ∈ (nth t.ops i).add) && decide (AllP (wtoL t p) (nth t.ops i).pre))
noncomputable def acTo (t : Tsk) (p : Int) : Nat → List Int
 | 0 => []
 | k + 1 => if acP t p k = true then acTo t p k ++ [(k : Int)] else acTo t p k
noncomputable def acL (t : Tsk) (p : Int) : List Int := acTo t p t.ops.length
noncomputable def acsTo (t : Tsk) (k : Nat) : List (List Int) := ((lmL t).take k).map fun p => acL t p
noncomputable def lmR (t : Tsk) : List Int := if tskF t = (0, 0) then lmL t else []
noncomputable def acR (t : Tsk) : List (List Int) := if tskF t = (0, 0) then acsTo t (lmL t).length else []
theorem lmTo_len {t : Tsk} : ∀ {k : Nat}, (lmTo t k).length ≤ k
 | 0 => Nat.le_refl _
 | k + 1 => by
  have := lmTo_len (t := t) (k := k)
  simp only [lmTo]; split
  ·simp; omega
  ·omega
theorem acTo_len {t : Tsk} {p : Int} : ∀ {k : Nat}, (acTo t p k).length ≤ k
 | 0 => Nat.le_refl _
 | k + 1 => by
  have := acTo_len (t := t) (p := p) (k := k)
  simp only [acTo]; split
  ·simp; omega
  ·omega
theorem lm_t {t : Tsk} {k : Nat} (h : lmP t k = true) : lmTo t (k + 1) = lmTo t k ++ [(k : Int)] := by simp only [lmTo]; rw [if_pos h]
theorem lm_f {t : Tsk} {k : Nat} (h : ¬ lmP t k = true) : lmTo t (k + 1) = lmTo t k := by simp only [lmTo]; rw [if_neg h]
theorem ac_t {t : Tsk} {p : Int} {k : Nat} (h : acP t p k = true) : acTo t p (k + 1) = acTo t p k ++ [(k : Int)] := by simp only [acTo]; rw [if_pos h]
theorem ac_f {t : Tsk} {p : Int} {k : Nat} (h : ¬ acP t p k = true) : acTo t p (k + 1) = acTo t p k := by simp only [acTo]; rw [if_neg h]
theorem acs_s {t : Tsk} {k : Nat} (hk : k < (lmL t).length) : acsTo t (k + 1) = acsTo t k ++ [acL t (nth (lmL t) k)] := by unfold acsTo; rw [tk_s hk]; simp
theorem wtoL_len {t : Tsk} {p : Int} : (wtoL t p).length = t.facts.toNat := cloL_len
theorem lmR_0 {t : Tsk} (h : tskF t = (0, 0)) : lmR t = lmL t := by unfold lmR; rw [if_pos h]
theorem lmR_1 {t : Tsk} (h : tskF t ≠ (0, 0)) : lmR t = [] := by unfold lmR; rw [if_neg h]
theorem acR_0 {t : Tsk} (h : tskF t = (0, 0)) : acR t = acsTo t (lmL t).length := by unfold acR; rw [if_pos h]
theorem acR_1 {t : Tsk} (h : tskF t ≠ (0, 0)) : acR t = [] := by unfold acR; rw [if_neg h]
structure TskV (t : Tsk) : Prop where
 facts : 0 ≤ t.facts ∧ t.facts ≤ 24
 ini : SetP t.facts t.ini
 goal : SetP t.facts t.goal
 ops : t.ops.length ≤ 40
 op : ∀ i : Nat, i < t.ops.length → (SetP t.facts (nth t.ops i).pre ∧ SetP t.facts (nth t.ops i).add ∧ SetP t.facts (nth t.ops i).del ∧ DisjP (nth t.ops i).add (nth t.ops i).del) ∧ 0 ≤ (nth t.ops i).cost ∧ (nth t.ops i).cost ≤ 100
theorem opCode_ok {n : Int} {o : SOp} (h : opCode n o = 0) : (SetP n o.pre ∧ SetP n o.add ∧ SetP n o.del ∧ DisjP o.add o.del) ∧ 0 ≤ o.cost ∧ o.cost ≤ 100 := by
 by_cases h1 : SetP n o.pre ∧ SetP n o.add ∧ SetP n o.del ∧ DisjP o.add o.del
 ·by_cases h2 : o.cost < 0 ∨ 100 < o.cost
  ·rw [opCode_3 h1 h2] at h; cases h
  ·exact ⟨h1, by omega, by omega⟩
 ·rw [opCode_5 h1] at h; cases h
theorem tskF_v {t : Tsk} (h : tskF t = (0, 0)) : TskV t := by
 obtain ⟨h1, h2, h3, h4, h5, _⟩ := tskF_inv (congrArg Prod.fst h)
 refine ⟨h1, h2, h3, h4, fun i hi => opCode_ok ?_⟩
 have := firstF_all h5 i hi
 by_cases c : opCode t.facts (nth t.ops i) = 0
 ·exact c
 ·rw [if_neg c] at this; exact absurd (congrArg Prod.fst this) c
theorem TskV.ok {t : Tsk} (h : TskV t) : TskOk t := ⟨h.facts, fun i hi => ⟨(h.op i hi).1.1, (h.op i hi).1.2.1, (h.op i hi).1.2.2.1⟩⟩
end Go.Eng
end

section
namespace Go.Eng
open Go
def chgO (o : SOp) (p : Int) : Int := if p ∉ o.pre ∧ p ∈ o.add then 1 else if p ∈ o.pre ∧ p ∈ o.del then -1 else 0
theorem chg_1 {o : SOp} {p : Int} (h : p ∉ o.pre) (h2 : p ∈ o.add) : 1 = chgO o p := by unfold chgO; rw [if_pos ⟨h, h2⟩]
theorem chg_2 {o : SOp} {p : Int} (h : p ∈ o.pre) (h2 : p ∈ o.del) : -1 = chgO o p := by unfold chgO; rw [if_neg (fun hh => hh.1 h), if_pos ⟨h, h2⟩]
theorem chg_0 {o : SOp} {p : Int} (h : ¬ (p ∉ o.pre ∧ p ∈ o.add)) (h2 : ¬ (p ∈ o.pre ∧ p ∈ o.del)) : 0 = chgO o p := by unfold chgO; rw [if_neg h, if_neg h2]
def SubP (a l : List Int) : Prop := ∀ k : Nat, k < a.length → nth a k ∈ l
instance {a l : List Int} : Decidable (SubP a l) := by unfold SubP; exact inferInstance
def CLarge (t : Tsk) : Prop := (∃ i : Nat, i < t.ops.length ∧ 20 < (nth t.ops i).cost) ∨ 6 < t.ops.length
instance {t : Tsk} : Decidable (CLarge t) := by
 unfold CLarge
 have : Decidable (∃ i : Nat, i < t.ops.length ∧ 20 < (nth t.ops i).cost) := decidable_of_iff (¬ ∀ i : Nat, i < t.ops.length → ¬ 20 < (nth t.ops i).cost) (by
  constructor
  ·intro h
   exact Classical.byContradiction fun hn => h fun i hi hc => hn ⟨i, hi, hc⟩
  ·rintro ⟨i, hi, hc⟩ h; exact h i hi hc)
 exact inferInstance
end Go.Eng
end

section
namespace Go.Eng
open Go
section
variable {t : Tsk} {s : List Int} {use : Nat → Bool} {drop : List Bool}
end
end Go.Eng
end

section
namespace Go.Eng
open Go
end Go.Eng
end

section
namespace Go.Eng
open Go
structure LPr where
 rws : List (List Int)
 bnd : List Int
 obj : List Int
deriving DecidableEq
instance : Inhabited LPr := ⟨⟨[], [], []⟩⟩
abbrev lprS (p : LPr) : S := .g [.d (rows p.rws), .d (ints p.bnd), .d (ints p.obj)]
def lprZ : LPr := ⟨[], [], []⟩
def gRow (t : Tsk) (q : Int) : List Int := t.ops.map fun o => -(chgO o q)
def gBnd (t : Tsk) (q : Int) : Int := if q ∈ t.ini then 0 else -1
noncomputable def lRow (t : Tsk) (q : Int) : List Int := (List.range t.ops.length).map fun (i : Nat) => if (i : Int) ∈ acL t q then -1 else 0
noncomputable def lmN (t : Tsk) : List Int := (lmL t).filter fun q => decide (q ∉ t.ini)
noncomputable def cpA (t : Tsk) : LPr := ⟨((t.goal.map (gRow t)) ++ (lmN t).map (lRow t)).take 6, ((t.goal.map (gBnd t)) ++ (lmN t).map fun _ => -1).take 6, t.ops.map fun o => -o.cost⟩
def cpF (t : Tsk) : Int × Int := if tskF t ≠ (0, 0) then tskF t else if CLarge t then (10, -8) else (0, 0)
noncomputable def cpR (t : Tsk) : LPr := if cpF t = (0, 0) then cpA t else lprZ
def obTo (t : Tsk) (k : Nat) : List Int := (t.ops.take k).map fun o => -o.cost
theorem ob_s {t : Tsk} {k : Nat} (hk : k < t.ops.length) : obTo t (k + 1) = obTo t k ++ [-(nth t.ops k).cost] := by unfold obTo; rw [tk_s hk]; simp
theorem ob_len {t : Tsk} {k : Nat} (hk : k ≤ t.ops.length) : (obTo t k).length = k := by simp [obTo]; omega
def gRows (t : Tsk) (k : Nat) : List (List Int) := (t.goal.take k).map (gRow t)
def gBnds (t : Tsk) (k : Nat) : List Int := (t.goal.take k).map (gBnd t)
theorem grs_s {t : Tsk} {k : Nat} (hk : k < t.goal.length) : gRows t (k + 1) = gRows t k ++ [gRow t (nth t.goal k)] := by unfold gRows; rw [tk_s hk]; simp
theorem gbs_s {t : Tsk} {k : Nat} (hk : k < t.goal.length) : gBnds t (k + 1) = gBnds t k ++ [gBnd t (nth t.goal k)] := by unfold gBnds; rw [tk_s hk]; simp
theorem grs_len {t : Tsk} {k : Nat} (hk : k ≤ t.goal.length) : (gRows t k).length = k := by simp [gRows]; omega
noncomputable def lmNTo (t : Tsk) (q : Nat) : List Int := (lmTo t q).filter fun p => decide (p ∉ t.ini)
noncomputable def allR (t : Tsk) (q : Nat) : List (List Int) := t.goal.map (gRow t) ++ (lmNTo t q).map (lRow t)
noncomputable def allB (t : Tsk) (q : Nat) : List Int := t.goal.map (gBnd t) ++ (lmNTo t q).map fun _ => -1
theorem all_len {t : Tsk} {q : Nat} : (allB t q).length = (allR t q).length := by simp [allR, allB]
theorem cpA_r (t : Tsk) : (cpA t).rws = (allR t t.facts.toNat).take 6 := rfl
theorem cpA_b (t : Tsk) : (cpA t).bnd = (allB t t.facts.toNat).take 6 := rfl
theorem cpA_o (t : Tsk) : (cpA t).obj = obTo t t.ops.length := by unfold obTo; rw [List.take_length]; rfl
theorem lmN_t {t : Tsk} {q : Nat} (h : lmP t q = true) (hi : (q : Int) ∉ t.ini) : lmNTo t (q + 1) = lmNTo t q ++ [(q : Int)] := by
 unfold lmNTo; rw [lm_t h, List.filter_append]; simp [hi]
theorem cl_ops {t : Tsk} (h : ¬ CLarge t) : t.ops.length ≤ 6 := by unfold CLarge at h; omega
theorem cl_cost {t : Tsk} (h : ¬ CLarge t) {i : Nat} (hi : i < t.ops.length) : (nth t.ops i).cost ≤ 20 := Classical.byContradiction fun hn => h (.inl ⟨i, hi, by omega⟩)
theorem chg_in {o : SOp} {p : Int} : -1 ≤ chgO o p ∧ chgO o p ≤ 1 := by unfold chgO; split; omega; split <;> omega
theorem neg_in {n : Int} (h0 : -9223372036854775807 ≤ n) (h1 : n ≤ 9223372036854775807) : IntKind.i64.wrap (0 - n) = -n := by
 rw [IntWalk.i64_in _ ⟨by omega, by omega⟩]; omega
end Go.Eng
end

section
namespace Go.Eng
open Go
def gRowS (t : Tsk) (q : Int) (i : Nat) : List Int := (List.range t.ops.length).map fun (j : Nat) => if j < i then -(chgO (nth t.ops j) q) else 0
theorem gs_len {t : Tsk} {q : Int} {i : Nat} : (gRowS t q i).length = t.ops.length := by simp [gRowS]
theorem gs_0 {t : Tsk} {q : Int} : gRowS t q 0 = List.replicate t.ops.length 0 := by
 apply List.ext_getElem (by simp [gRowS])
 intro i h1 h2; simp [gRowS]
theorem gs_s {t : Tsk} {q : Int} {i : Nat} (hi : i < t.ops.length) : (gRowS t q i).set i (-(chgO (nth t.ops i) q)) = gRowS t q (i + 1) := by
 apply List.ext_getElem (by simp [gRowS])
 intro j h1 h2
 rw [List.getElem_set]
 simp only [gRowS, List.getElem_map, List.getElem_range]
 by_cases hj : i = j
 ·subst hj; simp
 ·rw [if_neg hj]
  by_cases h : j < i
  ·rw [if_pos h, if_pos (by omega)]
  ·rw [if_neg h, if_neg (by omega)]
theorem gs_end {t : Tsk} {q : Int} : gRowS t q t.ops.length = gRow t q := by
 apply List.ext_getElem (by simp [gRowS, gRow])
 intro j h1 h2
 have hj : j < t.ops.length := by simpa [gRow] using h2
 simp only [gRowS, gRow, List.getElem_map, List.getElem_range]
 rw [if_pos hj, nth_eq hj]
noncomputable def lRowS (t : Tsk) (q : Int) (j : Nat) : List Int := (List.range t.ops.length).map fun (i : Nat) => if (i : Int) ∈ (acL t q).take j then -1 else 0
theorem ls_len {t : Tsk} {q : Int} {i : Nat} : (lRowS t q i).length = t.ops.length := by simp [lRowS]
theorem ls_0 {t : Tsk} {q : Int} : lRowS t q 0 = List.replicate t.ops.length 0 := by
 apply List.ext_getElem (by simp [lRowS])
 intro i h1 h2; simp [lRowS]
theorem ls_end {t : Tsk} {q : Int} : lRowS t q (acL t q).length = lRow t q := by unfold lRowS lRow; rw [List.take_length]
theorem acTo_in {t : Tsk} {p x : Int} : ∀ {k : Nat}, x ∈ acTo t p k → 0 ≤ x ∧ x < k
 | 0, h => by simp [acTo] at h
 | k + 1, h => by
  by_cases hl : acP t p k = true
  ·rw [ac_t hl] at h
   rcases List.mem_append.1 h with h | h
   ·have := acTo_in h; omega
   ·simp at h; omega
  ·rw [ac_f hl] at h; have := acTo_in h; omega
theorem acL_in {t : Tsk} {p : Int} {j : Nat} (hj : j < (acL t p).length) : 0 ≤ nth (acL t p) j ∧ nth (acL t p) j < t.ops.length := acTo_in (k := t.ops.length) (nth_mem (l := acL t p) (n := (j : Int)) (by omega) (by omega))
theorem ls_s {t : Tsk} {q : Int} {j : Nat} (hj : j < (acL t q).length) : (lRowS t q j).set (nth (acL t q) j).toNat (-1) = lRowS t q (j + 1) := by
 have hr := acL_in hj
 apply List.ext_getElem (by simp [lRowS])
 intro i h1 h2
 rw [List.getElem_set]
 simp only [lRowS, List.getElem_map, List.getElem_range]
 have hm : (i : Int) ∈ (acL t q).take (j + 1) ↔ (i : Int) ∈ (acL t q).take j ∨ nth (acL t q) j = i := by
  rw [tk_s hj]; simp only [List.mem_append, List.mem_singleton]; constructor <;> (rintro (h | h) <;> simp [h])
 by_cases he : (nth (acL t q) j).toNat = i
 ·rw [if_pos he, if_pos (hm.2 (.inr (by omega)))]
 ·rw [if_neg he]
  by_cases h : (i : Int) ∈ (acL t q).take j
  ·rw [if_pos h, if_pos (hm.2 (.inl h))]
  ·rw [if_neg h, if_neg (fun h' => (hm.1 h').elim h (fun e => he (by omega)))]
noncomputable def lmNK (t : Tsk) (k : Nat) : List Int := ((lmL t).take k).filter fun p => decide (p ∉ t.ini)
noncomputable def qR (t : Tsk) (k : Nat) : List (List Int) := t.goal.map (gRow t) ++ (lmNK t k).map (lRow t)
noncomputable def qB (t : Tsk) (k : Nat) : List Int := t.goal.map (gBnd t) ++ (lmNK t k).map fun _ => -1
theorem qr_0 {t : Tsk} : gRows t t.goal.length = qR t 0 ∧ gBnds t t.goal.length = qB t 0 := by
 unfold gRows gBnds qR qB lmNK
 rw [List.take_length]; simp
theorem qr_t {t : Tsk} {k : Nat} (hk : k < (lmL t).length) (h : nth (lmL t) k ∉ t.ini) : qR t (k + 1) = qR t k ++ [lRow t (nth (lmL t) k)] ∧ qB t (k + 1) = qB t k ++ [-1] := by
 unfold qR qB lmNK; rw [tk_s hk, List.filter_append]; simp [h]
theorem qr_f {t : Tsk} {k : Nat} (hk : k < (lmL t).length) (h : nth (lmL t) k ∈ t.ini) : qR t (k + 1) = qR t k ∧ qB t (k + 1) = qB t k := by
 unfold qR qB lmNK; rw [tk_s hk, List.filter_append]; simp [h]
theorem qr_len {t : Tsk} {k : Nat} : (qB t k).length = (qR t k).length := by simp [qR, qB]
theorem qr_le {t : Tsk} {k : Nat} : (qR t k).length ≤ t.goal.length + k := by
 unfold qR lmNK
 have := List.length_filter_le (fun p => decide (p ∉ t.ini)) ((lmL t).take k)
 simp only [List.length_append, List.length_map]
 rw [List.length_take] at this; omega
theorem qr_end {t : Tsk} : (qR t (lmL t).length).take 6 = (cpA t).rws ∧ (qB t (lmL t).length).take 6 = (cpA t).bnd := by
 have h : lmNK t (lmL t).length = lmNTo t t.facts.toNat := by unfold lmNK lmNTo; rw [List.take_length]; rfl
 rw [cpA_r, cpA_b]; unfold qR qB allR allB; rw [h]; exact ⟨rfl, rfl⟩
theorem tk_min {α : Type} {l : List α} {n : Int} (h : n = min (l.length : Int) 6) : l.take n.toNat = l.take 6 := by
 rcases Nat.lt_or_ge l.length 6 with h1 | h1
 ·rw [List.take_of_length_le (by omega), List.take_of_length_le (by omega)]
 ·congr 1; omega
theorem cpR_1 {t : Tsk} (h : cpF t ≠ (0, 0)) : lprZ = cpR t := by unfold cpR; rw [if_neg h]
theorem cpR_0 {t : Tsk} (h : cpF t = (0, 0)) : cpA t = cpR t := by unfold cpR; rw [if_pos h]
theorem cpF_1 {t : Tsk} (h : tskF t ≠ (0, 0)) : tskF t = cpF t := by unfold cpF; rw [if_pos h]
theorem cpF_2 {t : Tsk} (h : tskF t = (0, 0)) (h2 : CLarge t) : (10, -8) = cpF t := by unfold cpF; rw [if_neg (fun hn => hn h), if_pos h2]
theorem cpF_0 {t : Tsk} (h : tskF t = (0, 0)) (h2 : ¬ CLarge t) : (0, 0) = cpF t := by unfold cpF; rw [if_neg (fun hn => hn h), if_neg h2]
theorem cpF_ne {t : Tsk} (h : tskF t ≠ (0, 0)) : cpF t ≠ (0, 0) := by rw [← cpF_1 h]; exact h
theorem cl_any {t : Tsk} (h : (t.ops.any fun o => decide (20 < o.cost)) = true) : CLarge t := by
 obtain ⟨o, ho, hc⟩ := List.any_eq_true.1 h
 obtain ⟨i, hi, rfl⟩ := List.getElem_of_mem ho
 exact .inl ⟨i, hi, by rw [nth_eq hi]; simpa using hc⟩
theorem cl_none {t : Tsk} (h : ¬ (t.ops.any fun o => decide (20 < o.cost)) = true) (h6 : ¬ 6 < t.ops.length) : ¬ CLarge t := fun hc => by
 rcases hc with ⟨i, hi, hc⟩ | hc
 ·exact h (List.any_eq_true.2 ⟨t.ops[i], List.getElem_mem hi, by rw [nth_eq hi] at hc; simpa using hc⟩)
 ·exact h6 hc
theorem acs_at {t : Tsk} {k : Nat} (hk : k < (lmL t).length) : nth (acsTo t (lmL t).length) k = acL t (nth (lmL t) k) := by
 have h : k < (acsTo t (lmL t).length).length := by simp [acsTo]; omega
 rw [nth_eq h, nth_eq hk]; simp [acsTo]
theorem setP_len2 {n : Int} {l : List Int} (h : SetP n l) (hn : n ≤ 24) : l.length ≤ 24 := by
 have := pw_lt_len (n := n) (x := 0) (setP_sorted h) (fun y hy => setP_mem h hy)
 omega
theorem lp_end {t : Tsk} : (S.g [.d (rows ((qR t (lmL t).length).take (min ((qR t (lmL t).length).length : Int) 6).toNat)), .d (ints ((qB t (lmL t).length).take (min ((qR t (lmL t).length).length : Int) 6).toNat)), .d (ints (obTo t t.ops.length))]) = lprS (cpA t) := by
 have h := qr_end (t := t)
 rw [tk_min rfl, tk_min (by rw [qr_len]), h.1, h.2, ← cpA_o]
theorem Le.lpz : Le (.g [.d (.v (.slice none 0 0)), .d (.v (.slice none 0 0)), .d (.v (.slice none 0 0))]) (lprS lprZ) := Le.g (.cons (Le.nil 1) <| .cons (Le.nil 1) <| .cons (Le.nil 1) <| .nil)
end Go.Eng
end

section
namespace Go.Eng
open Go.RowKit (Below)
structure Tb where
 rs : List (List Int)
 bs : List Int
 dn : Int
structure Ids where
 s : Nat
 r : Nat
 rc : Nat
 rt : List Value
 ba : Option Addr
 bb : Nat
 bc : Nat
 bt : List Value
 rb : List Nat
 cs : List Nat
 ts : List (List Value)
 w : Nat
 Tt : Nat
 TR : Nat
 TI : Nat
def iv (l : List Int) : List Value := l.map (Value.int .i64)
def rbk (g : Ids) (i : Int) : Nat := g.rb.getD i.toNat 0
def rck (g : Ids) (i : Int) : Nat := g.cs.getD i.toNat 0
def rtl (g : Ids) (i : Nat) : List Value := g.ts.getD i []
def cel (t : Tb) (i j : Int) : Int := nth (nth t.rs i) j
noncomputable def tabF (g : Ids) (t : Tb) : PF := fun b => if b = g.s then some (g.Tt, [slc g.r t.rs.length g.rc, .slice g.ba t.bs.length g.bc, .int .i64 t.dn])
 else if b = g.r then some (g.TR, (List.range g.rb.length).map (fun (i : Nat) => slc (rbk g i) g.w (rck g i)) ++ g.rt) else if b = g.bb then some (g.TI, iv t.bs ++ g.bt)
 else if b ∈ g.rb then some (g.TI, iv (nth t.rs (g.rb.idxOf b)) ++ rtl g (g.rb.idxOf b)) else none
noncomputable abbrev tabM (g : Ids) (t : Tb) : Mo := .any (pinK (tabF g t))
structure TabOk (g : Ids) (t : Tb) : Prop where
 sr : g.r ≠ g.s
 nd : g.rb.Nodup
 s : g.s ∉ g.rb
 r : g.r ∉ g.rb
 b : g.bb ∉ g.rb
 br : g.bb ≠ g.r
 ba : t.bs ≠ [] → g.ba = some ⟨g.bb, 0, none⟩ ∧ g.bb ≠ g.s
 len : g.rb.length = t.rs.length
 w : ∀ i : Nat, i < t.rs.length → (nth t.rs i).length = g.w
 rc : t.rs.length ≤ g.rc ∧ g.rc ≤ maxLen
 bc : t.bs.length ≤ g.bc ∧ g.bc ≤ maxLen
 cc : ∀ i : Nat, i < t.rs.length → g.w ≤ rck g i ∧ rck g i ≤ maxLen
 wm : g.w ≤ 1000000
 rm : t.rs.length ≤ 1000000
 bm : t.bs.length ≤ 1000000
theorem idxOf_nd {l : List Nat} (h : l.Nodup) {i : Nat} (hi : i < l.length) : l.idxOf l[i] = i := by
 induction l generalizing i with
 | nil => simp at hi
 | cons x l ih =>
  rw [List.nodup_cons] at h
  cases i with
  | zero => simp
  | succ i =>
   simp only [List.length_cons] at hi
   simp only [List.getElem_cons_succ]
   have hm : l[i] ∈ l := List.getElem_mem (by omega)
   have hx : (x == l[i]) = false := by
    simp only [beq_eq_false_iff_ne]; intro e; exact h.1 (by rw [e]; exact hm)
   rw [List.idxOf_cons, hx, ih h.2 (by omega)]; rfl
section
variable {g : Ids} {t t' : Tb}
theorem tab_s : tabF g t g.s = some (g.Tt, [slc g.r t.rs.length g.rc, .slice g.ba t.bs.length g.bc, .int .i64 t.dn]) := by simp [tabF]
theorem tab_r (h : TabOk g t) : tabF g t g.r = some (g.TR, (List.range g.rb.length).map (fun (i : Nat) => slc (rbk g i) g.w (rck g i)) ++ g.rt) := by
 unfold tabF; rw [if_neg h.sr, if_pos rfl]
theorem tab_b (h : TabOk g t) (hb : t.bs ≠ []) : tabF g t g.bb = some (g.TI, iv t.bs ++ g.bt) := by
 unfold tabF; rw [if_neg (h.ba hb).2, if_neg h.br, if_pos rfl]
theorem rbk_in (h : TabOk g t) {i : Int} (h0 : 0 ≤ i) (h1 : i < t.rs.length) : rbk g i ∈ g.rb ∧ g.rb.idxOf (rbk g i) = i.toNat := by
 have hl : i.toNat < g.rb.length := by rw [h.len]; omega
 have e : rbk g i = g.rb[i.toNat] := by unfold rbk; simp [hl]
 rw [e]; exact ⟨List.getElem_mem _, idxOf_nd h.nd hl⟩
theorem rbk_ne (h : TabOk g t) {c : Nat} (m1 : c ∈ g.rb) : c ≠ g.s ∧ c ≠ g.r ∧ c ≠ g.bb := ⟨fun e => h.s (by rw [← e]; exact m1), fun e => h.r (by rw [← e]; exact m1), fun e => h.b (by rw [← e]; exact m1)⟩
theorem tab_row (h : TabOk g t) {i : Int} (h0 : 0 ≤ i) (h1 : i < t.rs.length) : tabF g t (rbk g i) = some (g.TI, iv (nth t.rs i) ++ rtl g i.toNat) := by
 obtain ⟨m1, m2⟩ := rbk_in h h0 h1
 obtain ⟨n1, n2, n3⟩ := rbk_ne h m1
 unfold tabF
 rw [if_neg n1, if_neg n2, if_neg n3, if_pos m1, m2, Int.toNat_of_nonneg h0]
theorem tab_dom (b : Nat) : tabF g t b = none ↔ tabF g t' b = none := by
 unfold tabF
 split
 ·simp
 ·split
  ·simp
  ·split
   ·simp
   ·split <;> simp
def setC (t : Tb) (i j : Int) (x : Int) : Tb := { t with rs := t.rs.set i.toNat ((nth t.rs i).set j.toNat x) }
theorem nth_set {α : Type} [Inhabited α] {l : List α} {i : Nat} {v : α} {n : Int} (h0 : 0 ≤ n) (h1 : n < l.length) : nth (l.set i v) n = if n.toNat = i then v else nth l n := by
 have h2 : n.toNat < l.length := by omega
 unfold nth
 simp only [List.getD_eq_getElem?_getD, List.getElem?_set]
 by_cases h : i = n.toNat
 ·subst h; simp [h2]
 ·rw [if_neg h, if_neg (fun e => h e.symm)]
theorem tab_setC (h : TabOk g t) {i j : Int} {x : Int} (h0 : 0 ≤ i) (h1 : i < t.rs.length) (hj : j.toNat < (nth t.rs i).length) : updF (tabF g t) (rbk g i) g.TI ((iv (nth t.rs i) ++ rtl g i.toNat).set j.toNat (.int .i64 x)) = tabF g (setC t i j x) := by
 obtain ⟨m1, m2⟩ := rbk_in h h0 h1
 funext c
 unfold updF
 by_cases hc : c = rbk g i
 ·subst hc
  rw [if_pos rfl]
  obtain ⟨n1, n2, n3⟩ := rbk_ne h m1
  unfold tabF
  rw [if_neg n1, if_neg n2, if_neg n3, if_pos m1, m2]
  unfold setC
  rw [nth_set (by omega) (by omega), if_pos (by omega), List.set_append_left _ _ (by simpa [iv] using hj)]
  simp [iv, List.map_set]
 ·rw [if_neg hc]
  unfold tabF setC
  simp only [List.length_set]
  by_cases hm : c ∈ g.rb
  ·obtain ⟨n1, n2, n3⟩ := rbk_ne h hm
   rw [if_neg n1, if_neg n2, if_neg n3, if_pos hm, if_neg n1, if_neg n2, if_neg n3, if_pos hm]
   have hlt : g.rb.idxOf c < g.rb.length := List.idxOf_lt_length_iff.2 hm
   have hne : g.rb.idxOf c ≠ i.toNat := fun e => hc (by
    have : g.rb[g.rb.idxOf c] = c := List.getElem_idxOf hlt
    unfold rbk
    rw [← e]
    simp [hlt])
   rw [nth_set (by omega) (by have := h.len; omega), if_neg (by simpa using hne)]
  ·simp [hm]
theorem tab_setD {x : Int} : updF (tabF g t) g.s g.Tt ([slc g.r t.rs.length g.rc, .slice g.ba t.bs.length g.bc, .int .i64 t.dn].set 2 (.int .i64 x)) = tabF g { t with dn := x } := by
 funext c
 unfold updF
 by_cases hc : c = g.s
 ·subst hc; rw [if_pos rfl, tab_s]; rfl
 ·rw [if_neg hc]; unfold tabF; simp [hc]
theorem tab_setB (h : TabOk g t) (hb : t.bs ≠ []) {j : Int} {x : Int} (h1 : j.toNat < t.bs.length) : updF (tabF g t) g.bb g.TI ((iv t.bs ++ g.bt).set j.toNat (.int .i64 x)) = tabF g { t with bs := t.bs.set j.toNat x } := by
 funext c
 unfold updF
 by_cases hc : c = g.bb
 ·subst hc
  rw [if_pos rfl]
  unfold tabF
  rw [if_neg (h.ba hb).2, if_neg h.br, if_pos rfl, List.set_append_left _ _ (by simpa [iv] using h1)]
  simp [iv, List.map_set]
 ·rw [if_neg hc]; unfold tabF; simp [hc]
theorem TabOk.mono (h : TabOk g t) (h1 : t'.rs.length = t.rs.length) (h2 : ∀ i : Nat, i < t.rs.length → (nth t'.rs i).length = (nth t.rs i).length) (h3 : t'.bs.length = t.bs.length) : TabOk g t' := {
 sr := h.sr
 nd := h.nd
 s := h.s
 r := h.r
 b := h.b
 br := h.br
 ba := fun hb => h.ba (fun e => hb (List.eq_nil_of_length_eq_zero (by rw [h3, e]; rfl)))
 len := h.len.trans h1.symm
 w := fun i hi => by rw [h2 i (by omega)]; exact h.w i (by omega)
 rc := by rw [h1]; exact h.rc
 bc := by rw [h3]; exact h.bc
 cc := fun i hi => h.cc i (by omega)
 wm := h.wm
 rm := by rw [h1]; exact h.rm
 bm := by rw [h3]; exact h.bm }
end
section
variable {P : Program} {N : Nat} {w0 : World} {O0 : Nat → Nat} {B : Nat} {o : Oper} {e : Env} {M : Mem} {s : S} {g : Ids} {t : Tb} {h : Nat}
theorem OpSem.tb0 {T : TypeId} {x : Operand} (ho : o.op = .load T x) (hx : opS e x = some (.d (.v (ptr g.s 0)))) (hM : look M h = some (tabM g t)) (ht : vsz P T = some (false, 1)) : OpSem P B o e M (.d (.v (slc g.r t.rs.length g.rc))) none :=
 .loadv ho hx hM ht tab_s rfl
theorem OpSem.tb1 {T : TypeId} {x : Operand} (ho : o.op = .load T x) (hx : opS e x = some (.d (.v (ptr g.s 1)))) (hM : look M h = some (tabM g t)) (ht : vsz P T = some (false, 1)) : OpSem P B o e M (.d (.v (.slice g.ba t.bs.length g.bc))) none :=
 .loadv ho hx hM ht tab_s rfl
theorem OpSem.tb2 {T : TypeId} {x : Operand} (ho : o.op = .load T x) (hx : opS e x = some (.d (.v (ptr g.s 2)))) (hM : look M h = some (tabM g t)) (ht : vsz P T = some (false, 1)) : OpSem P B o e M (.d (.v (.int .i64 t.dn))) none :=
 .loadv ho hx hM ht tab_s rfl
theorem OpSem.tbR {T : TypeId} {x : Operand} {i : Int} (hk : TabOk g t) (ho : o.op = .load T x) (hx : opS e x = some (.d (.v (ptr g.r (0 + i.toNat))))) (hM : look M h = some (tabM g t)) (ht : vsz P T = some (false, 1)) (h0 : 0 ≤ i) (h1 : i < t.rs.length) : OpSem P B o e M (.d (.v (slc (rbk g i) g.w (rck g i)))) none := by
 refine .loadv ho hx hM ht (tab_r hk) ?_
 have hl : i.toNat < g.rb.length := by have := hk.len; omega
 rw [Nat.zero_add, List.getElem?_append_left (by simpa using hl), List.getElem?_map, List.getElem?_range hl, Option.map_some, Int.toNat_of_nonneg h0]
theorem OpSem.tbC {T : TypeId} {x : Operand} {i j : Int} (hk : TabOk g t) (ho : o.op = .load T x) (hx : opS e x = some (.d (.v (ptr (rbk g i) (0 + j.toNat))))) (hM : look M h = some (tabM g t)) (ht : vsz P T = some (false, 1)) (h0 : 0 ≤ i) (h1 : i < t.rs.length) (k0 : 0 ≤ j) (k1 : j < g.w) : OpSem P B o e M (.d (.v (.int .i64 (cel t i j)))) none := by
 refine .loadv ho hx hM ht (tab_row hk h0 h1) ?_
 have hw := hk.w i.toNat (by omega)
 rw [Int.toNat_of_nonneg h0] at hw
 have hl : j.toNat < (nth t.rs i).length := by omega
 have : cel t i j = (nth t.rs i)[j.toNat] := by unfold cel; rw [← nth_eq hl, Int.toNat_of_nonneg k0]
 rw [Nat.zero_add, this, List.getElem?_append_left (by simpa [iv] using hl)]; simp [iv, hl]
theorem OpSem.tbB {T : TypeId} {x : Operand} {j : Int} (hk : TabOk g t) (ho : o.op = .load T x) (hx : opS e x = some (.d (.v (ptr g.bb (0 + j.toNat))))) (hM : look M h = some (tabM g t)) (ht : vsz P T = some (false, 1)) (k0 : 0 ≤ j) (k1 : j < t.bs.length) : OpSem P B o e M (.d (.v (.int .i64 (nth t.bs j)))) none := by
 have hl : j.toNat < t.bs.length := by omega
 have hb : t.bs ≠ [] := fun e => by rw [e] at hl; simp at hl
 refine .loadv ho hx hM ht (tab_b hk hb) ?_
 have : nth t.bs j = t.bs[j.toNat] := by rw [← nth_eq hl, Int.toNat_of_nonneg k0]
 rw [Nat.zero_add, this, List.getElem?_append_left (by simpa [iv] using hl)]; simp [iv, hl]
theorem TabOk.at (hk : TabOk g t) {j : Int} (k0 : 0 ≤ j) (k1 : j < t.bs.length) : g.ba = some ⟨g.bb, 0, none⟩ := (hk.ba (fun e => by rw [e] at k1; simp at k1; omega)).1
theorem OpSt.tbC {T : TypeId} {x y : Operand} {i j v : Int} (hk : TabOk g t) (ho : o.op = .store T x y) (hx : opS e x = some (.d (.v (ptr (rbk g i) (0 + j.toNat))))) (hy : opS e y = some (.d (.v (.int .i64 v)))) (ht : vsz P T = some (false, 1)) (h0 : 0 ≤ i) (h1 : i < t.rs.length) (k0 : 0 ≤ j) (k1 : j < g.w) : OpSt P B o e h (tabM g t) (tabM g (setC t i j v)) .u := by
 have hw := hk.w i.toNat (by omega)
 rw [Int.toNat_of_nonneg h0] at hw
 exact .storev ho hx hy ht (tab_row hk h0 h1) (by simp [iv]; omega) rfl (by rw [Nat.zero_add]; exact tab_setC hk h0 h1 (by omega))
theorem OpSt.tbD {T : TypeId} {x y : Operand} {v : Int} (ho : o.op = .store T x y) (hx : opS e x = some (.d (.v (ptr g.s 2)))) (hy : opS e y = some (.d (.v (.int .i64 v)))) (ht : vsz P T = some (false, 1)) : OpSt P B o e h (tabM g t) (tabM g { t with dn := v }) .u :=
 .storev ho hx hy ht tab_s (by simp) rfl tab_setD
theorem OpSt.tbB {T : TypeId} {x y : Operand} {j v : Int} (hk : TabOk g t) (ho : o.op = .store T x y) (hx : opS e x = some (.d (.v (ptr g.bb (0 + j.toNat))))) (hy : opS e y = some (.d (.v (.int .i64 v)))) (ht : vsz P T = some (false, 1)) (k0 : 0 ≤ j) (k1 : j < t.bs.length) : OpSt P B o e h (tabM g t) (tabM g { t with bs := t.bs.set j.toNat v }) .u := by
 have hl : j.toNat < t.bs.length := by omega
 have hb : t.bs ≠ [] := fun e => by rw [e] at hl; simp at hl
 exact .storev ho hx hy ht (tab_b hk hb) (by simp [iv]; omega) rfl (by rw [Nat.zero_add]; exact tab_setB hk hb hl)
end
theorem bquoT {t : TypeId} {m n : Int} (h0 : -4611686018427387904 ≤ m) (h1 : m ≤ 4611686018427387904) (hn : n ≠ 0) : binOp .quo t (.int .i64 m) (.int .i64 n) = pure (.int .i64 (m.tdiv n)) := by
 rw [binOp_quo]; simp only [Op.intDiv]; rw [if_neg hn, IntWalk.i64_in]
 have h2 : (m.tdiv n).natAbs ≤ m.natAbs := by rw [Int.natAbs_tdiv]; exact Nat.div_le_self _ _
 omega
theorem bremT {t : TypeId} {m n : Int} (hn : n ≠ 0) : binOp .rem t (.int .i64 m) (.int .i64 n) = pure (.int .i64 (m.tmod n)) := by
 rw [binOp_rem]; simp only [Op.intDiv]; rw [if_neg hn]
end Go.Eng
end

section
namespace Go.Eng
instance : Inhabited Tb := ⟨⟨[], [], 0⟩⟩
def inB (x : Int) : Prop := -1000000000 ≤ x ∧ x ≤ 1000000000
instance (x : Int) : Decidable (inB x) := inferInstanceAs (Decidable (_ ∧ _))
structure Bnd (t : Tb) : Prop where
 row : ∀ r, r ∈ t.rs → ∀ x, x ∈ r → inB x
 dn : inB t.dn
 dn0 : t.dn ≠ 0
def bndB (t : Tb) : Bool := t.rs.all (fun r => r.all fun x => decide (inB x)) && decide (inB t.dn) && decide (t.dn ≠ 0)
theorem bndB_ok {t : Tb} (h : bndB t = true) : Bnd t := by
 simp only [bndB, Bool.and_eq_true, List.all_eq_true, decide_eq_true_eq] at h
 exact ⟨h.1.1, h.1.2, h.2⟩
theorem nth_inB {l : List Int} (h : ∀ x, x ∈ l → inB x) {j : Int} : inB (nth l j) := by
 rcases Nat.lt_or_ge j.toNat l.length with h1 | h1
 ·have e : nth l j = l[j.toNat] := by unfold nth; simp [h1]
  rw [e]; exact h _ (List.getElem_mem _)
 ·have e : nth l j = 0 := by unfold nth; simp [h1]
  rw [e]; unfold inB; omega
theorem Bnd.cel {t : Tb} (h : Bnd t) {i j : Int} : inB (cel t i j) := by
 unfold Eng.cel
 refine nth_inB fun x hx => ?_
 rcases Nat.lt_or_ge i.toNat t.rs.length with h1 | h1
 ·have e : nth t.rs i = t.rs[i.toNat] := by unfold nth; simp [h1]
  rw [e] at hx; exact h.row _ (List.getElem_mem _) x hx
 ·have e : nth t.rs i = [] := by unfold nth; simp [h1]; rfl
  rw [e] at hx; cases hx
theorem mul_inB {a b : Int} (ha : inB a) (hb : inB b) : -1152921504606846976 ≤ a * b ∧ a * b ≤ 1152921504606846976 := by
 unfold inB at *
 have h1 : (a * b).natAbs = a.natAbs * b.natAbs := Int.natAbs_mul a b
 have h2 : a.natAbs * b.natAbs ≤ 1000000000 * 1000000000 := Nat.mul_le_mul (by omega) (by omega)
 omega
def pvN (t : Tb) (r c : Int) (row : List Int) : List Int := (List.range row.length).map fun (j : Nat) => (nth row j * cel t r c - nth row c * cel t r j).tdiv t.dn
def pvTo (t : Tb) (r c : Int) (k : Nat) : Tb := { t with rs := (List.range t.rs.length).map fun (i : Nat) => if i < k ∧ (i : Int) ≠ r then pvN t r c (nth t.rs i) else nth t.rs i }
def pvIn (t : Tb) (r c : Int) (k l : Nat) : Tb := { pvTo t r c k with rs := (pvTo t r c k).rs.set k ((pvN t r c (nth t.rs k)).take l ++ (nth t.rs k).drop l) }
section
variable {t : Tb} {r c : Int} {k l : Nat}
theorem range_nth {α : Type} [Inhabited α] (l : List α) : ((List.range l.length).map fun (i : Nat) => nth l i) = l := by
 refine List.ext_getElem (by simp) fun i h1 h2 => ?_
 simp [nth_eq h2]
theorem nth_rangeMap {α : Type} [Inhabited α] {n : Nat} {f : Nat → α} {i : Nat} (h : i < n) : nth ((List.range n).map f) i = f i := by
 rw [nth_eq (by simpa using h)]; simp
theorem pv_0 : t = pvTo t r c 0 := by
 unfold pvTo; simp only [Nat.not_lt_zero, false_and, if_false]; rw [range_nth]
theorem pv_len : (pvTo t r c k).rs.length = t.rs.length := by simp [pvTo]
theorem pv_at {i : Nat} (hi : i < t.rs.length) : nth (pvTo t r c k).rs i = if i < k ∧ (i : Int) ≠ r then pvN t r c (nth t.rs i) else nth t.rs i := by
 unfold pvTo; exact nth_rangeMap hi
theorem pv_skip (h : (k : Int) = r) : pvTo t r c (k + 1) = pvTo t r c k := by
 unfold pvTo
 congr 1
 refine List.map_congr_left fun i _ => ?_
 by_cases hi : i < k ∧ (i : Int) ≠ r
 ·rw [if_pos hi, if_pos ⟨by omega, hi.2⟩]
 ·rw [if_neg hi, if_neg (fun h2 => hi ⟨by omega, h2.2⟩)]
theorem pvN_len {row : List Int} : (pvN t r c row).length = row.length := by simp [pvN]
theorem pvIn_len : (pvIn t r c k l).rs.length = t.rs.length := by simp [pvIn, pv_len]
theorem pvIn_0 (hk : k < t.rs.length) : pvTo t r c k = pvIn t r c k 0 := by
 have e : nth t.rs k = nth (pvTo t r c k).rs k := by rw [pv_at hk, if_neg (by omega)]
 unfold pvIn
 simp only [List.take_zero, List.nil_append, List.drop_zero]
 have hk' : k < (pvTo t r c k).rs.length := by rw [pv_len]; exact hk
 rw [e, nth_eq hk', List.set_getElem_self]
theorem pvIn_row (hk : k < t.rs.length) : nth (pvIn t r c k l).rs k = (pvN t r c (nth t.rs k)).take l ++ (nth t.rs k).drop l := by
 have hk' : k < (pvTo t r c k).rs.length := by rw [pv_len]; exact hk
 unfold pvIn
 rw [nth_set (by omega) (by omega), if_pos (by simp)]
theorem pvIn_oth {i : Nat} (hi : i < t.rs.length) (hne : i ≠ k) : nth (pvIn t r c k l).rs i = nth (pvTo t r c k).rs i := by
 unfold pvIn
 rw [nth_set (by omega) (by rw [pv_len]; omega), if_neg (by simpa using hne)]
theorem mix_len {a b : List Int} {l : Nat} (h : a.length = b.length) : (a.take l ++ b.drop l).length = b.length := by simp; omega
theorem mix_at {a b : List Int} {l : Nat} (h : a.length = b.length) (hl : l < b.length) : nth (a.take l ++ b.drop l) l = nth b l := by
 rw [nth_eq (by rw [mix_len h]; exact hl), nth_eq hl, List.getElem_append_right (by simp; omega)]
 simp only [List.length_take, List.getElem_drop]
 congr 1; omega
theorem mix_s {a b : List Int} {l : Nat} (h : a.length = b.length) (hl : l < b.length) : (a.take l ++ b.drop l).set l (nth a l) = a.take (l + 1) ++ b.drop (l + 1) := by
 rw [nth_eq (by omega : l < a.length)]
 refine List.ext_getElem (by simp; omega) fun i h1 h2 => ?_
 rw [List.getElem_set]
 by_cases hi : l = i
 ·subst hi
  rw [if_pos rfl, List.getElem_append_left (by simp; omega)]; simp
 ·rw [if_neg hi]
  by_cases hlt : i < l
  ·rw [List.getElem_append_left (by simp; omega), List.getElem_append_left (by simp; omega)]; simp
  ·rw [List.getElem_append_right (by simp; omega), List.getElem_append_right (by simp; omega)]
   simp only [List.length_take, List.getElem_drop]
   congr 1; omega
theorem mix_end {a b : List Int} (h : a.length = b.length) : a.take b.length ++ b.drop b.length = a := by
 rw [List.drop_length, List.append_nil, ← h, List.take_length]
theorem pvIn_cel (hk : k < t.rs.length) (hl : l < (nth t.rs k).length) : cel (pvIn t r c k l) k l = cel t k l := by
 unfold cel; rw [pvIn_row hk, mix_at pvN_len hl]
theorem pvIn_r {j : Int} (hr0 : 0 ≤ r) (hr : r < t.rs.length) (hne : (k : Int) ≠ r) : cel (pvIn t r c k l) r j = cel t r j := by
 obtain ⟨m, rfl⟩ := Int.eq_ofNat_of_zero_le hr0
 unfold cel; rw [pvIn_oth (by omega) (by omega), pv_at (by omega), if_neg (by simp)]
theorem pvTo_k {j : Int} (hk : k < t.rs.length) : cel (pvTo t r c k) k j = cel t k j := by
 unfold cel; rw [pv_at hk, if_neg (by omega)]
theorem pvIn_s (hk : k < t.rs.length) (hl : l < (nth t.rs k).length) : setC (pvIn t r c k l) k l ((cel t k l * cel t r c - cel t k c * cel t r l).tdiv t.dn) = pvIn t r c k (l + 1) := by
 have hv : (cel t k l * cel t r c - cel t k c * cel t r l).tdiv t.dn = nth (pvN t r c (nth t.rs k)) l := by
  unfold pvN; rw [nth_rangeMap hl]; rfl
 rw [hv]
 unfold setC
 rw [pvIn_row hk]
 simp only [Int.toNat_natCast]
 rw [mix_s pvN_len hl]
 simp [pvIn]
theorem pvIn_end (hk : k < t.rs.length) (hne : (k : Int) ≠ r) : pvIn t r c k (nth t.rs k).length = pvTo t r c (k + 1) := by
 unfold pvIn
 rw [mix_end pvN_len]
 have key : (pvTo t r c k).rs.set k (pvN t r c (nth t.rs k)) = (pvTo t r c (k + 1)).rs := ?_
 ·rw [key]; rfl
 unfold pvTo
 refine List.ext_getElem (by simp) fun i h1 h2 => ?_
 rw [List.getElem_set]
 simp only [List.getElem_map, List.getElem_range]
 by_cases hi : k = i
 ·subst hi; rw [if_pos rfl, if_pos ⟨by omega, hne⟩]
 ·rw [if_neg hi]
  by_cases h : i < k ∧ (i : Int) ≠ r
  ·rw [if_pos h, if_pos ⟨by omega, h.2⟩]
  ·rw [if_neg h, if_neg (fun h3 => h ⟨by omega, h3.2⟩)]
theorem pvTo_w {i : Nat} (hi : i < t.rs.length) : (nth (pvTo t r c k).rs i).length = (nth t.rs i).length := by
 rw [pv_at hi]; split
 ·exact pvN_len
 ·rfl
theorem pvIn_w {i : Nat} (hi : i < t.rs.length) (hk : k < t.rs.length) : (nth (pvIn t r c k l).rs i).length = (nth t.rs i).length := by
 by_cases h : i = k
 ·subst h; rw [pvIn_row hk, mix_len pvN_len]
 ·rw [pvIn_oth hi h, pvTo_w hi]
theorem pvTo_ok {g : Ids} (h : TabOk g t) : TabOk g (pvTo t r c k) := h.mono pv_len (fun i hi => pvTo_w hi) rfl
theorem pvIn_ok {g : Ids} (hk : k < t.rs.length) (h : TabOk g t) : TabOk g (pvIn t r c k l) := h.mono pvIn_len (fun i hi => pvIn_w hi hk) rfl
def ngN (row : List Int) : List Int := row.map fun x => -x
def ngTo (t : Tb) (k : Nat) : Tb := { t with rs := (List.range t.rs.length).map fun (i : Nat) => if i < k then ngN (nth t.rs i) else nth t.rs i }
def ngIn (t : Tb) (k l : Nat) : Tb := { ngTo t k with rs := (ngTo t k).rs.set k ((ngN (nth t.rs k)).take l ++ (nth t.rs k).drop l) }
theorem ngN_len {row : List Int} : (ngN row).length = row.length := by simp [ngN]
theorem ng_0 : t = ngTo t 0 := by
 unfold ngTo; simp only [Nat.not_lt_zero, if_false]; rw [range_nth]
theorem ng_len : (ngTo t k).rs.length = t.rs.length := by simp [ngTo]
theorem ng_at {i : Nat} (hi : i < t.rs.length) : nth (ngTo t k).rs i = if i < k then ngN (nth t.rs i) else nth t.rs i := by
 unfold ngTo; exact nth_rangeMap hi
theorem ngIn_len : (ngIn t k l).rs.length = t.rs.length := by simp [ngIn, ng_len]
theorem ngIn_0 (hk : k < t.rs.length) : ngTo t k = ngIn t k 0 := by
 have e : nth t.rs k = nth (ngTo t k).rs k := by rw [ng_at hk, if_neg (by omega)]
 unfold ngIn
 simp only [List.take_zero, List.nil_append, List.drop_zero]
 have hk' : k < (ngTo t k).rs.length := by rw [ng_len]; exact hk
 rw [e, nth_eq hk', List.set_getElem_self]
theorem ngIn_row (hk : k < t.rs.length) : nth (ngIn t k l).rs k = (ngN (nth t.rs k)).take l ++ (nth t.rs k).drop l := by
 have hk' : k < (ngTo t k).rs.length := by rw [ng_len]; exact hk
 unfold ngIn
 rw [nth_set (by omega) (by omega), if_pos (by simp)]
theorem ngIn_cel (hk : k < t.rs.length) (hl : l < (nth t.rs k).length) : cel (ngIn t k l) k l = cel t k l := by
 unfold cel; rw [ngIn_row hk, mix_at ngN_len hl]
theorem ngIn_s (hk : k < t.rs.length) (hl : l < (nth t.rs k).length) : setC (ngIn t k l) k l (-(cel t k l)) = ngIn t k (l + 1) := by
 have hv : -(cel t k l) = nth (ngN (nth t.rs k)) l := by
  unfold ngN cel; rw [nth_eq (l := (nth t.rs k).map fun x => -x) (by simpa using hl), nth_eq hl]; simp
 rw [hv]
 unfold setC
 rw [ngIn_row hk]
 simp only [Int.toNat_natCast]
 rw [mix_s ngN_len hl]
 simp [ngIn]
theorem ngIn_end (hk : k < t.rs.length) : ngIn t k (nth t.rs k).length = ngTo t (k + 1) := by
 unfold ngIn
 rw [mix_end ngN_len]
 have key : (ngTo t k).rs.set k (ngN (nth t.rs k)) = (ngTo t (k + 1)).rs := ?_
 ·rw [key]; rfl
 unfold ngTo
 refine List.ext_getElem (by simp) fun i h1 h2 => ?_
 rw [List.getElem_set]
 simp only [List.getElem_map, List.getElem_range]
 by_cases hi : k = i
 ·subst hi; rw [if_pos rfl, if_pos (by omega)]
 ·rw [if_neg hi]
  by_cases h : i < k
  ·rw [if_pos h, if_pos (by omega)]
  ·rw [if_neg h, if_neg (by omega)]
theorem ngTo_w {i : Nat} (hi : i < t.rs.length) : (nth (ngTo t k).rs i).length = (nth t.rs i).length := by
 rw [ng_at hi]; split
 ·exact ngN_len
 ·rfl
theorem ngIn_w {i : Nat} (hi : i < t.rs.length) (hk : k < t.rs.length) : (nth (ngIn t k l).rs i).length = (nth t.rs i).length := by
 by_cases h : i = k
 ·subst h; rw [ngIn_row hk, mix_len ngN_len]
 ·unfold ngIn
  rw [nth_set (by omega) (by rw [ng_len]; omega), if_neg (by simpa using h), ngTo_w hi]
theorem ngTo_ok {g : Ids} (h : TabOk g t) : TabOk g (ngTo t k) := h.mono ng_len (fun i hi => ngTo_w hi) rfl
theorem ngIn_ok {g : Ids} (hk : k < t.rs.length) (h : TabOk g t) : TabOk g (ngIn t k l) := h.mono ngIn_len (fun i hi => ngIn_w hi hk) rfl
def pivA (t : Tb) (r c : Int) : Tb := ⟨(pvTo t r c t.rs.length).rs, t.bs.set r.toNat c, cel t r c⟩
def pivN (t : Tb) (r c : Int) : Tb := ⟨(pvTo t r c t.rs.length).rs, t.bs.set r.toNat c, -(cel t r c)⟩
def pivF (t : Tb) (r c : Int) : Tb := if cel t r c < 0 then ngTo (pivN t r c) t.rs.length else pivA t r c
theorem pivA_ok {g : Ids} (h : TabOk g t) : TabOk g (pivA t r c) := h.mono pv_len (fun i hi => pvTo_w hi) (by simp [pivA])
theorem pivN_ok {g : Ids} (h : TabOk g t) : TabOk g (pivN t r c) := h.mono pv_len (fun i hi => pvTo_w hi) (by simp [pivN])
theorem pivN_rl : (pivN t r c).rs.length = t.rs.length := pv_len
theorem pivF_ok {g : Ids} (h : TabOk g t) : TabOk g (pivF t r c) := by
 unfold pivF; split
 ·exact ngTo_ok (pivN_ok h)
 ·exact pivA_ok h
theorem pivF_bl : (pivF t r c).bs.length = t.bs.length := by unfold pivF; split <;> simp [pivA, pivN, ngTo]
theorem pivF_rl : (pivF t r c).rs.length = t.rs.length := by unfold pivF; split <;> simp [pivA, pivN, ngTo, pvTo]
theorem pivF_1 (h : cel t r c < 0) : pivF t r c = ngTo (pivN t r c) t.rs.length := by unfold pivF; rw [if_pos h]
theorem pivF_0 (h : ¬ cel t r c < 0) : pivF t r c = pivA t r c := by unfold pivF; rw [if_neg h]
theorem pvN_in (hb : Bnd t) {i : Int} {j : Nat} (hj : j < (nth t.rs i).length) : -2305843009213693952 ≤ nth (pvN t r c (nth t.rs i)) j ∧ nth (pvN t r c (nth t.rs i)) j ≤ 2305843009213693952 := by
 unfold pvN
 rw [nth_rangeMap hj]
 have m1 := mul_inB (hb.cel (i := i) (j := (j : Int))) (hb.cel (i := r) (j := c))
 have m2 := mul_inB (hb.cel (i := i) (j := c)) (hb.cel (i := r) (j := (j : Int)))
 have h2 := Int.natAbs_tdiv (cel t i j * cel t r c - cel t i c * cel t r j) t.dn
 have h3 : ((cel t i j * cel t r c - cel t i c * cel t r j).tdiv t.dn).natAbs ≤ (cel t i j * cel t r c - cel t i c * cel t r j).natAbs := by rw [h2]; exact Nat.div_le_self _ _
 unfold cel at *
 omega
theorem pivN_in (hb : Bnd t) {i j : Nat} (hi : i < t.rs.length) (hj : j < (nth t.rs i).length) : -2305843009213693952 ≤ cel (pivN t r c) i j ∧ cel (pivN t r c) i j ≤ 2305843009213693952 := by
 have e : cel (pivN t r c) i j = nth (nth (pvTo t r c t.rs.length).rs i) j := rfl
 rw [e, pv_at hi]
 split
 ·exact pvN_in hb hj
 ·have := hb.cel (i := (i : Int)) (j := (j : Int)); unfold inB cel at this; omega
end
end Go.Eng
end

section
namespace Go.Eng
def lvC (t : Tb) (c : Int) (w : Nat) (b i : Int) : Prop :=
 cel t i (w - 1) * cel t b c < cel t b (w - 1) * cel t i c ∨ (cel t i (w - 1) * cel t b c = cel t b (w - 1) * cel t i c ∧ nth t.bs i < nth t.bs b)
instance (t : Tb) (c : Int) (w : Nat) (b i : Int) : Decidable (lvC t c w b i) := inferInstanceAs (Decidable (_ ∨ _))
def lvStep (t : Tb) (c : Int) (w : Nat) (b i : Int) : Int := if cel t i c ≤ 0 then b else if b < 0 then i else if lvC t c w b i then i else b
def lvTo (t : Tb) (c : Int) (w : Nat) : Nat → Int
 | 0 => -1
 | k + 1 => lvStep t c w (lvTo t c w k) k
def lvF (t : Tb) (c : Int) (w : Nat) : Int := lvTo t c w t.bs.length
section
variable {t t' t2 t3 : Tb} {c x : Int} {w k : Nat}
theorem lv_in : ∀ {k : Nat}, -1 ≤ lvTo t c w k ∧ lvTo t c w k < k
 | 0 => by simp [lvTo]
 | k + 1 => by
  have := lv_in (k := k)
  simp only [lvTo, lvStep]
  split
  ·omega
  ·split
   ·omega
   ·split <;> omega
theorem lv_1 (h : cel t k c ≤ 0) : lvTo t c w (k + 1) = lvTo t c w k := by simp only [lvTo, lvStep]; rw [if_pos h]
theorem lv_2 (h : ¬ cel t k c ≤ 0) (hb : lvTo t c w k < 0) : lvTo t c w (k + 1) = k := by simp only [lvTo, lvStep]; rw [if_neg h, if_pos hb]
theorem lv_3 (h : ¬ cel t k c ≤ 0) (hb : ¬ lvTo t c w k < 0) (hc : lvC t c w (lvTo t c w k) k) : lvTo t c w (k + 1) = k := by simp only [lvTo, lvStep]; rw [if_neg h, if_neg hb, if_pos hc]
theorem lv_4 (h : ¬ cel t k c ≤ 0) (hb : ¬ lvTo t c w k < 0) (hc : ¬ lvC t c w (lvTo t c w k) k) : lvTo t c w (k + 1) = lvTo t c w k := by simp only [lvTo, lvStep]; rw [if_neg h, if_neg hb, if_neg hc]
theorem lvF_in : -1 ≤ lvF t c w ∧ lvF t c w < t.bs.length := lv_in
structure Ent (t : Tb) (ob : Int) (n c : Nat) : Prop where
 lt : c < n
 all : ∀ j : Nat, j < c → 0 ≤ cel t ob j
 hit : cel t ob c < 0
theorem Ent.uniq {ob : Int} {n c d : Nat} (h : Ent t ob n c) (k : Ent t ob n d) : c = d := by
 rcases Nat.lt_trichotomy c d with h1 | h1 | h1
 ·have := k.all c h1; have := h.hit; omega
 ·exact h1
 ·have := h.all d h1; have := k.hit; omega
inductive MaxN (w : Nat) (ob : Int) (n : Nat) : Nat → Tb → Tb → Int → Prop
 | opt {t : Tb} (hb : Bnd t) (h : ∀ j : Nat, j < n → 0 ≤ cel t ob j) : MaxN w ob n 0 t t (-1)
 | unb {t : Tb} {c : Nat} (hb : Bnd t) (h : Ent t ob n c) (hl : lvF t c w < 0) : MaxN w ob n 0 t t c
 | step {t t' : Tb} {x : Int} {k c : Nat} (hb : Bnd t) (h : Ent t ob n c) (hl : ¬ lvF t c w < 0) (hr : MaxN w ob n k (pivF t (lvF t c w) c) t' x) : MaxN w ob n (k + 1) t t' x
theorem MaxN.inv {ob : Int} {n : Nat} (h : MaxN w ob n k t t' x) : Bnd t ∧ (((∀ j : Nat, j < n → 0 ≤ cel t ob j) ∧ t' = t ∧ x = -1) ∨ (∃ c : Nat, Ent t ob n c ∧ lvF t c w < 0 ∧ t' = t ∧ x = c) ∨ ∃ c k' : Nat, Ent t ob n c ∧ ¬ lvF t c w < 0 ∧ k = k' + 1 ∧ MaxN w ob n k' (pivF t (lvF t c w) c) t' x) := by
 cases h with
 | opt hb h => exact ⟨hb, .inl ⟨h, rfl, rfl⟩⟩
 | unb hb h hl => exact ⟨hb, .inr (.inl ⟨_, h, hl, rfl, rfl⟩)⟩
 | step hb h hl hr => exact ⟨hb, .inr (.inr ⟨_, _, h, hl, rfl, hr⟩)⟩
theorem MaxN.all {ob : Int} {n : Nat} (h : MaxN w ob n k t t' x) (ha : ∀ j : Nat, j < n → 0 ≤ cel t ob j) : t' = t ∧ x = -1 := by
 rcases h.inv.2 with h | ⟨c, h, _⟩ | ⟨c, _, h, _⟩
 ·exact h.2
 ·have := ha c h.lt; have := h.hit; omega
 ·have := ha c h.lt; have := h.hit; omega
theorem MaxN.ent {ob : Int} {n c : Nat} (h : MaxN w ob n k t t' x) (he : Ent t ob n c) (hl : lvF t c w < 0) : t' = t ∧ x = c := by
 rcases h.inv.2 with h | ⟨d, h, _, h2, h3⟩ | ⟨d, _, h, hl', _⟩
 ·have := h.1 c he.lt; have := he.hit; omega
 ·rw [he.uniq h]; exact ⟨h2, h3⟩
 ·rw [← he.uniq h] at hl'; exact absurd hl hl'
theorem MaxN.next {ob : Int} {n c : Nat} (h : MaxN w ob n k t t' x) (he : Ent t ob n c) (hl : ¬ lvF t c w < 0) : ∃ k', k = k' + 1 ∧ MaxN w ob n k' (pivF t (lvF t c w) c) t' x := by
 rcases h.inv.2 with h | ⟨d, h, hl', _⟩ | ⟨d, k', h, _, h3, h4⟩
 ·have := h.1 c he.lt; have := he.hit; omega
 ·rw [← he.uniq h] at hl'; exact absurd hl' hl
 ·rw [← he.uniq h] at h4; exact ⟨k', h3, h4⟩
theorem MaxN.ok {ob : Int} {n : Nat} {g : Ids} (h : MaxN w ob n k t t' x) : TabOk g t → TabOk g t' ∧ t'.bs.length = t.bs.length ∧ t'.rs.length = t.rs.length ∧ Bnd t' := by
 induction h with
 | opt hb _ => exact fun h => ⟨h, rfl, rfl, hb⟩
 | unb hb _ _ => exact fun h => ⟨h, rfl, rfl, hb⟩
 | step hb _ _ _ ih =>
  intro h
  obtain ⟨h1, h2, h3, h4⟩ := ih (pivF_ok h)
  exact ⟨h1, h2.trans pivF_bl, h3.trans pivF_rl, h4⟩
def loC (t : Tb) (w : Nat) (b i : Int) : Prop := cel t i (w - 1) < 0 ∧ (b < 0 ∨ cel t i (w - 1) < cel t b (w - 1))
instance (t : Tb) (w : Nat) (b i : Int) : Decidable (loC t w b i) := inferInstanceAs (Decidable (_ ∧ _))
def loTo (t : Tb) (w : Nat) : Nat → Int
 | 0 => -1
 | k + 1 => if loC t w (loTo t w k) k then k else loTo t w k
def loF (t : Tb) (w : Nat) : Int := loTo t w t.bs.length
theorem lo_in : ∀ {k : Nat}, -1 ≤ loTo t w k ∧ loTo t w k < k
 | 0 => by simp [loTo]
 | k + 1 => by
  have := lo_in (k := k)
  simp only [loTo]
  split <;> omega
theorem lo_t (h : loC t w (loTo t w k) k) : loTo t w (k + 1) = k := by simp only [loTo]; rw [if_pos h]
theorem lo_f (h : ¬ loC t w (loTo t w k) k) : loTo t w (k + 1) = loTo t w k := by simp only [loTo]; rw [if_neg h]
theorem loF_in : -1 ≤ loF t w ∧ loF t w < t.bs.length := lo_in
structure Nzc (t : Tb) (r : Int) (w c : Nat) : Prop where
 lt : c < w
 all : ∀ j : Nat, j < c → cel t r j = 0
 hit : cel t r c ≠ 0
inductive DrvN (w : Nat) : Nat → Tb → Tb → Prop
 | done {t : Tb} {r : Nat} (h : r = t.bs.length) : DrvN w r t t
 | skip {t t' : Tb} {r : Nat} (hl : r < t.bs.length) (h : nth t.bs r ≠ (w : Int) - 2) (hn : DrvN w (r + 1) t t') : DrvN w r t t'
 | piv {t t' : Tb} {r c : Nat} (hl : r < t.bs.length) (h : nth t.bs r = (w : Int) - 2) (hb : Bnd t) (hc : Nzc t r w c) (hn : DrvN w (r + 1) (pivF t r c) t') : DrvN w r t t'
theorem DrvN.inv {r : Nat} (h : DrvN w r t t') : (r = t.bs.length ∧ t' = t) ∨ (r < t.bs.length ∧ nth t.bs r ≠ (w : Int) - 2 ∧ DrvN w (r + 1) t t') ∨ (r < t.bs.length ∧ nth t.bs r = (w : Int) - 2 ∧ Bnd t ∧ ∃ c, Nzc t r w c ∧ DrvN w (r + 1) (pivF t r c) t') := by
 cases h with
 | done h => exact .inl ⟨h, rfl⟩
 | skip hl h hn => exact .inr (.inl ⟨hl, h, hn⟩)
 | piv hl h hb hc hn => exact .inr (.inr ⟨hl, h, hb, _, hc, hn⟩)
theorem DrvN.le {r : Nat} (h : DrvN w r t t') : r ≤ t.bs.length := by
 rcases h.inv with h | h | h <;> omega
theorem DrvN.end {r : Nat} (h : DrvN w r t t') (hr : r = t.bs.length) : t' = t := by
 rcases h.inv with h | h | h
 ·exact h.2
 ·omega
 ·omega
theorem DrvN.next {r : Nat} (h : DrvN w r t t') (hr : r < t.bs.length) (hn : nth t.bs r ≠ (w : Int) - 2) : DrvN w (r + 1) t t' := by
 rcases h.inv with h | h | h
 ·omega
 ·exact h.2.2
 ·exact absurd h.2.1 hn
theorem DrvN.go {r : Nat} (h : DrvN w r t t') (hr : r < t.bs.length) (hn : nth t.bs r = (w : Int) - 2) : Bnd t ∧ ∃ c, Nzc t r w c ∧ DrvN w (r + 1) (pivF t r c) t' := by
 rcases h.inv with h | h | h
 ·omega
 ·exact absurd hn h.2.1
 ·exact h.2.2
theorem DrvN.ok {r : Nat} {g : Ids} (h : DrvN w r t t') : TabOk g t → TabOk g t' ∧ t'.bs.length = t.bs.length ∧ t'.rs.length = t.rs.length := by
 induction h with
 | done h => exact fun h => ⟨h, rfl, rfl⟩
 | skip _ _ _ ih => exact ih
 | piv _ _ _ _ _ ih =>
  intro h
  obtain ⟨h1, h2, h3⟩ := ih (pivF_ok h)
  exact ⟨h1, h2.trans pivF_bl, h3.trans pivF_rl⟩
inductive StartN (w : Nat) : Tb → Tb → Bool → Prop
 | pos {t : Tb} (h : loF t w < 0) : StartN w t t true
 | no {t t2 : Tb} {k : Nat} {x : Int} (hb : Bnd t) (h : ¬ loF t w < 0) (hm : MaxN w (t.bs.length + 1) (w - 1) k (pivF t (loF t w) ((w : Int) - 2)) t2 x) (hn : cel t2 (t.bs.length + 1) ((w : Int) - 1) < 0) : StartN w t t2 false
 | yes {t t2 t3 : Tb} {k : Nat} {x : Int} (hb : Bnd t) (h : ¬ loF t w < 0) (hm : MaxN w (t.bs.length + 1) (w - 1) k (pivF t (loF t w) ((w : Int) - 2)) t2 x) (hn : ¬ cel t2 (t.bs.length + 1) ((w : Int) - 1) < 0) (hd : DrvN w 0 t2 t3) : StartN w t t3 true
theorem StartN.pos2 {b : Bool} (h : StartN w t t' b) (hl : loF t w < 0) : t' = t ∧ b = true := by
 cases h with
 | pos _ => exact ⟨rfl, rfl⟩
 | no _ h _ _ => exact absurd hl h
 | yes _ h _ _ _ => exact absurd hl h
theorem StartN.neg2 {b : Bool} (h : StartN w t t' b) (hl : ¬ loF t w < 0) : Bnd t ∧ ∃ (k : Nat) (t2 : Tb) (x : Int), MaxN w (t.bs.length + 1) (w - 1) k (pivF t (loF t w) ((w : Int) - 2)) t2 x ∧
  (cel t2 (t.bs.length + 1) ((w : Int) - 1) < 0 → t' = t2 ∧ b = false) ∧ (¬ cel t2 (t.bs.length + 1) ((w : Int) - 1) < 0 → b = true ∧ DrvN w 0 t2 t') := by
 cases h with
 | pos h => exact absurd h hl
 | no hb _ hm hn => exact ⟨hb, _, _, _, hm, fun _ => ⟨rfl, rfl⟩, fun h => absurd hn h⟩
 | yes hb _ hm hn hd => exact ⟨hb, _, _, _, hm, fun h => absurd h hn, fun _ => ⟨rfl, hd⟩⟩
theorem StartN.ok {g : Ids} {b : Bool} (h : StartN w t t' b) (hk : TabOk g t) : TabOk g t' ∧ t'.bs.length = t.bs.length ∧ t'.rs.length = t.rs.length := by
 cases h with
 | pos _ => exact ⟨hk, rfl, rfl⟩
 | no hb h hm hn =>
  obtain ⟨h1, h2, h3, _⟩ := hm.ok (pivF_ok hk)
  exact ⟨h1, h2.trans pivF_bl, h3.trans pivF_rl⟩
 | yes hb h hm hn hd =>
  obtain ⟨h1, h2, h3, _⟩ := hm.ok (pivF_ok hk)
  obtain ⟨k1, k2, k3⟩ := hd.ok h1
  exact ⟨k1, k2.trans (h2.trans pivF_bl), k3.trans (h3.trans pivF_rl)⟩
end
end Go.Eng
end

section
namespace Go.Eng
abbrev Vc := Nat → Int
def alt {α β : Type} (f : α → List α → Int) : List α → Int
 | [] => 0
 | x :: l => f x l - alt (β := β) (fun y l' => f y (x :: l')) l
abbrev al (f : Vc → List Vc → Int) (l : List Vc) : Int := alt (β := Unit) f l
def up (B : Nat → Vc) (k : Nat) (v : Vc) : Nat → Vc := fun i => if i = k then v else B i
section
variable {M : Nat} {B : Nat → Vc} {k l : Nat} {x y : Vc}
def un (k : Nat) : Vc := fun q => if q = k then 1 else 0
end
end Go.Eng
end

section
namespace Go.Eng
open Go.RowKit (Below)
section
variable {P : Program} {N : Nat} {w0 : World} {O0 : Nat → Nat} {ops : Array Oper} {Q : Post} {e : Env} {M : Mem} {rest : List Oper} {o : Oper} {s : S} {B : Nat} {c : Code}
theorem Tr.pin0 (h : Nat) (hc : Tr P N w0 O0 e ((h, .any (pinK noF)) :: M) c Q) : Tr P N w0 O0 e M c Q := fun O H a w hst => hc O H a w (hst.memSet (fun b T l hF => by cases hF))
theorem Tr.pinEq {h : Nat} {F F' : PF} (hM : look M h = some (.any (pinK F))) (he : F = F') (hn : Tr P N w0 O0 e ((h, .any (pinK F')) :: M) c Q) : Tr P N w0 O0 e M c Q := by
 subst he
 exact fun O H a w hst => hn O H a w (hst.memSet (hst.mem _ _ hM))
theorem MHold.relab {O O' : Nat → Nat} {H : Nat → Value} {B : Nat} {w : World} {n : Nat} {m : Mo} (hk : Keeps O w O' w) (ho : ∀ b, O b = n + 1 → O' b = n + 1) (hm : MHold O H B w n m) : MHold O' H B w n m := by
 cases m with
 | gone => trivial
 | fr K => exact K.mono _ _ _ _ _ hk hm
 | any K => exact K.mono _ _ _ _ _ _ _ (fun b hb' hO => ⟨hO.elim (fun h0 => (hk b hb' h0).1.trans h0.symm) (fun h1 => (ho b h1).trans h1.symm), rfl⟩) hm
 | own k' T' rows' =>
  rcases hm with ⟨h0, h1⟩ | ⟨b, cap, xs, hH, hB, hO, hb, hlc, hcm, hsz, hw, hc⟩
  ·exact .inl ⟨h0, h1⟩
  ·exact .inr ⟨b, cap, xs, hH, hB, ho b hO, hb, hlc, hcm, hsz, hw, fun i r j d hi hj => by
    obtain ⟨x, hx, hr, h1⟩ := hc i r j d hi hj
    exact ⟨x, hx, hr.mono hk, h1⟩⟩
 | box cs =>
  obtain ⟨b, xs, T, hH, hB, hO, hb, hsz, hc⟩ := hm
  exact ⟨b, xs, T, hH, hB, ho b hO, hb, hsz, fun i s hs => by
   obtain ⟨x, hx, hr, h1⟩ := hc i s hs
   exact ⟨x, hx, hr.keeps hk, h1⟩⟩
def setL (O : Nat → Nat) (b l : Nat) : Nat → Nat := fun c => if c = b then l else O c
theorem setL_keeps {O : Nat → Nat} {w : World} {b l : Nat} (h : O b ≠ 0) : Keeps O w (setL O b l) w := fun c _ h0 => ⟨by unfold setL; rw [if_neg (fun e => by subst e; exact h h0)]; exact h0, rfl⟩
theorem pinK_add {O : Nat → Nat} {v : Value} {B : Nat} {w : World} {h b T : Nat} {F : PF} {l : List Value} (hq : (pinK F).q O v B w h) (hB : B ≤ b) (hb : w.heap[b]? = some (.cells l.toArray T (0, 0))) (hne : O b ≠ h + 1) : F b = none ∧ (pinK (updF F b T l)).q (setL O b (h + 1)) v B w h := by
 have hn : F b = none := by
  cases hF : F b with
  | none => rfl
  | some p => exact absurd (hq b p.1 p.2 hF).2.1 hne
 refine ⟨hn, fun c T' l' hc => ?_⟩
 unfold updF at hc
 by_cases he : c = b
 ·subst he; rw [if_pos rfl] at hc; cases hc
  exact ⟨hB, by simp [setL], hb⟩
 ·rw [if_neg he] at hc
  obtain ⟨g1, g2, g3⟩ := hq c T' l' hc
  exact ⟨g1, by simp [setL, he, g2], g3⟩
theorem Tr.pinOwn (h h' : Nat) {F : PF} {T : Nat} {l : List Value} (hM : look M h = some (.any (pinK F))) (hM' : look M h' = some (.own 1 T (l.map fun v => [D.v v]))) (hh : h' ≠ h) (hl : l ≠ [])
  (hc : ∀ (b cap : Nat) (tl : List Value), F b = none → l.length ≤ cap → cap ≤ maxLen → Tr P N w0 O0 (fzE h' (.v (slc b l.length cap)) e) ((h, .any (pinK (updF F b T (l ++ tl)))) :: fzM h' (.v (slc b l.length cap)) M) c Q) : Tr P N w0 O0 e M c Q := by
 intro O H a w hst
 obtain ⟨b, cap, xs, hH, hB, hO, hb, hlc, hcm, hsz, hw, hcc⟩ := (hst.mem h' _ hM').ownSome (by rw [List.length_map]; exact List.length_pos_iff.2 hl)
 simp only [List.length_map] at hH hlc
 have hx : xs.toList.take l.length = l := by
  refine List.ext_getElem (by simp; omega) fun i h1 h2 => ?_
  obtain ⟨x, q1, q2, _⟩ := hcc i [.v l[i]] 0 (.v l[i]) (by simp [h2]) rfl
  cases q2 with
  | v _ =>
   have e1 : i * 1 + 0 = i := by omega
   rw [e1] at q1
   simp [Array.getElem?_eq_some_iff.1 q1 |>.2]
 have hxs : (l ++ xs.toList.drop l.length).toArray = xs := by
  apply Array.ext'
  simp only [List.toList_toArray]
  conv => rhs; rw [← List.take_append_drop l.length xs.toList, hx]
 obtain ⟨hn, hp⟩ := pinK_add (hst.mem h _ hM) (l := l ++ xs.toList.drop l.length) hB (by rw [hxs]; exact hb) (by rw [hO]; omega)
 have hk : Keeps O w (setL O b (h + 1)) w := setL_keeps (by rw [hO]; omega)
 have hst2 := fz_st (h := h') (dd := .v (slc b l.length cap)) hst hk (by rw [hH]; exact .v _) (fun c hc => by unfold setL; rw [if_neg (by omega)]) (fun c h2 hne h3 => by unfold setL; rw [if_neg (fun e => by subst e; rw [hO] at h3; omega)]; exact h3)
 refine hc b cap (xs.toList.drop l.length) hn hlc hcm _ H a w (hst2.memSet ?_)
 have : H h = H h := rfl
 exact hp
theorem Tr.pinOwn0 (h h' : Nat) {F : PF} {T : Nat} {l : List Value} (hM : look M h = some (.any (pinK F))) (hM' : look M h' = some (.own 1 T (l.map fun v => [D.v v]))) (hh : h' ≠ h)
  (hc : ∀ (a : Option Addr) (b cap : Nat) (tl : List Value) (F' : PF), l.length ≤ cap → cap ≤ maxLen → ((a = none ∧ l = [] ∧ F' = F) ∨ (a = some ⟨b, 0, none⟩ ∧ F b = none ∧ F' = updF F b T (l ++ tl))) →
   Tr P N w0 O0 (fzE h' (.v (.slice a l.length cap)) e) ((h, .any (pinK F')) :: fzM h' (.v (.slice a l.length cap)) M) c Q) : Tr P N w0 O0 e M c Q := by
 by_cases hl : l = []
 ·intro O H a w hst
  rcases hst.mem h' _ hM' with ⟨h0, _⟩ | ⟨b, cap, xs, hH, hB, hO, hb, hlc, hcm, hsz, hw, hcc⟩
  ·have hst2 := fz_st (h := h') (dd := .v (.slice none l.length 0)) hst (O' := O) (fun _ _ h => ⟨h, rfl⟩) (by rw [h0, hl]; exact .v _) (fun _ _ => rfl) (fun _ _ _ h => h)
   exact hc none 0 0 [] F (by simp [hl]) (by simp [maxLen]) (.inl ⟨rfl, hl, rfl⟩) O H a w (hst2.memSet (hst.mem h _ hM))
  ·have hxs : (l ++ xs.toList).toArray = xs := by rw [hl]; simp
   simp only [List.length_map] at hH hlc
   obtain ⟨hn, hp⟩ := pinK_add (hst.mem h _ hM) (l := l ++ xs.toList) hB (by rw [hxs]; exact hb) (by rw [hO]; omega)
   have hk : Keeps O w (setL O b (h + 1)) w := setL_keeps (by rw [hO]; omega)
   have hst2 := fz_st (h := h') (dd := .v (slc b l.length cap)) hst hk (by rw [hH]; exact .v _) (fun c hc => by unfold setL; rw [if_neg (by omega)]) (fun c h2 hne h3 => by unfold setL; rw [if_neg (fun e => by subst e; rw [hO] at h3; omega)]; exact h3)
   exact hc _ b cap xs.toList _ hlc hcm (.inr ⟨rfl, hn, rfl⟩) _ H a w (hst2.memSet hp)
 ·exact Tr.pinOwn h h' hM hM' hh hl fun b cap tl h1 h2 h3 => hc _ b cap tl _ h2 h3 (.inr ⟨rfl, h1, rfl⟩)
theorem Tr.pinBox (h h' : Nat) {F : PF} {cs : List S} {l : List Value} (hM : look M h = some (.any (pinK F))) (hM' : look M h' = some (.box cs)) (hcs : cs = l.map fun v => S.d (.v v)) (hh : h' ≠ h)
  (hc : ∀ (b T : Nat), F b = none → Tr P N w0 O0 (fzbE h' (fun k => .d (.v (ptr b k))) e) ((h, .any (pinK (updF F b T l))) :: (h', .gone) :: M) c Q) : Tr P N w0 O0 e M c Q := by
 subst hcs
 intro O H a w hst
 obtain ⟨b, xs, T, hH, hB, hO, hb, hsz, hcc⟩ := hst.mem h' _ hM'
 have hxs : l.toArray = xs := by
  apply Array.ext'
  refine List.ext_getElem (by simpa using hsz.symm) fun i h1 h2 => ?_
  obtain ⟨x, q1, q2, _⟩ := hcc i (.d (.v l[i])) (by simp [show i < l.length by simpa using h1])
  have := rep_v q2
  simp [Array.getElem?_eq_some_iff.1 q1 |>.2, this]
 obtain ⟨hn, hp⟩ := pinK_add (hst.mem h _ hM) (l := l) hB (by rw [hxs]; exact hb) (by rw [hO]; omega)
 have hk : Keeps O w (setL O b (h + 1)) w := setL_keeps (by rw [hO]; omega)
 have hrep : ∀ (n : Nat) (x : Value) (s : S), RepS O H w x s → RepS (setL O b (h + 1)) H w x (fzb h' (fun k => .d (.v (ptr b k))) n s) := fzb_rep hk fun x k hr => by
  cases hr with
  | r h2 b2 k hH2 =>
   rw [hH] at hH2
   simp only [Value.pointer.injEq, Option.some.injEq, Addr.mk.injEq, and_true] at hH2
   subst hH2
   exact .d _ _ (.v _)
 refine hc b T hn (setL O b (h + 1)) H a w ⟨hst.df, hst.sz, hst.bl, fun c hc => ?_, fun n s hs => ?_, fun n m hm => ?_⟩
 ·unfold setL; rw [if_neg (by omega)]; exact hst.lab c hc
 ·unfold fzbE at hs
  rw [look_map (fun _ v => fzb h' (fun k => .d (.v (ptr b k))) 9 v)] at hs
  obtain ⟨s', hs', rfl⟩ := Option.map_eq_some_iff.1 hs
  obtain ⟨x, hx, hr⟩ := hst.slots n s' hs'
  exact ⟨x, hx, hrep 9 x s' hr⟩
 ·rcases look_cons hm with ⟨rfl, rfl⟩ | ⟨_, hm⟩
  ·exact hp
  ·rcases look_cons hm with ⟨rfl, rfl⟩ | ⟨hne, hm⟩
   ·trivial
   ·exact (hst.mem n m hm).relab hk fun c hcn => by unfold setL; rw [if_neg (fun e => by subst e; rw [hO] at hcn; omega)]; exact hcn
structure DoesNP (P : Program) (f : Nat) (args : List S) (R : PF → Value → Prop) : Prop where
 can : ∀ xs w, (callFunc f xs).run P w = .ok (.enter f xs) w
 run : ∀ (O : Nat → Nat) (w : World) (xs : List Value), xs.length = args.length → (∀ (i : Nat) (x : Value) (s : S), xs[i]? = some x → args[i]? = some s → RepS O zH w x s) →
  Calls P f xs.toArray w fun en w' => ∃ F v, en = .returned v ∧ R F v ∧ Below w.heap.size w w' ∧ ∀ b T l, F b = some (T, l) → w.heap.size ≤ b ∧ w'.heap[b]? = some (.cells l.toArray T (0, 0))
def RetNP (w0 : World) (R : PF → Value → Prop) : Ending → World → Prop :=
 fun en w' => ∃ F v, en = .returned v ∧ R F v ∧ Below w0.heap.size w0 w' ∧ ∀ b T l, F b = some (T, l) → w0.heap.size ≤ b ∧ w'.heap[b]? = some (.cells l.toArray T (0, 0))
theorem DoesNP.of_body {f : Nat} {args : List S} {R : PF → Value → Prop} {fn : Func} {c : Code} (hf : P.funcs[f]? = some fn) (hb : fn.body = some c) (hN : fn.ntmps = N) (hlen : args.length ≤ N)
  (can : ∀ xs w, (callFunc f xs).run P w = .ok (.enter f xs) w) (h : ∀ (w0 : World) (O0 : Nat → Nat), Tr P N w0 O0 (entry 0 args) [] c (bodyPost P fn (RetNP w0 R))) : DoesNP P f args R := by
 refine ⟨can, fun O w xs hl hx => calls_of_wp hf hb (h w O O zH _ w ⟨rfl, ?_, .refl _ _, fun _ _ => rfl, fun n s hs => ?_, fun n s hs => by cases hs⟩)⟩
 ·simp; omega
 ·obtain ⟨_, hn⟩ := look_entry args 0 n s hs
  simp only [Nat.sub_zero] at hn
  have hlt : n < xs.length := by rw [hl]; exact (List.getElem?_eq_some_iff.1 hn).1
  refine ⟨xs[n], ?_, hx n _ s (List.getElem?_eq_getElem hlt) hn⟩
  rw [Array.getElem?_append_left (by simpa using hlt)]
  simp [hlt]
theorem At.retNP {R : PF → Value → Prop} {fn : Func} {t h : Nat} {F : PF} {v : Value} (hres : fn.results.toList = [.tmp t]) (ho : look e t = some (.d (.v v))) (hM : look M h = some (.any (pinK F))) (hR : R F v) :
  At N w0 O0 e M .ret (bodyPost P fn (RetNP w0 R)) := by
 intro O H a w hst
 obtain ⟨x, hx, hr⟩ := hst.slots _ _ ho
 have hm := hst.mem h _ hM
 exact ⟨hst.df, _, retO_run hres hx, F, v, by rw [rep_v hr], hR, hst.bl, fun b T l hF => ⟨(hm b T l hF).1, (hm b T l hF).2.2⟩⟩
theorem TrOps.callNP {g : Operand} {as_ : Array Operand} {ts : Array TypeId} {fn d : Nat} {fs cs l args args' : List S} {R : PF → Value → Prop} (h : Nat)
  (hspec : DoesNP P fn args R) (ho : o.op = .call { callee := .value g, args := as_, argTypes := ts }) (hgd : o.guard = none) (hd : o.dst = some d) (hdN : d < N) (hg : opS e g = some (.f fn fs cs)) (ha : opsS e as_.toList = some l)
  (hv : (fs ++ l ++ cs).mapM (S.view M 9) = some args') (hle : Les args' args)
  (hn : ∀ F v, R F v → TrOps P N w0 O0 ops Q ((d, .d (.v v)) :: e) ((h, .any (pinK F)) :: M) rest) : TrOps P N w0 O0 ops Q e M (o :: rest) := by
 intro O H a w hst
 refine wpList_plain hgd fun K hK => Oper.wp_false ?_ Q
 have hg' := hst.slotsAt #[g] g (by simp) _ hg
 have hsz := hst.size
 generalize hgv : a.eval g = gv at hg'
 cases hg' with
 | f _ xs ys _ _ hl hl' hx hy =>
  obtain ⟨a1, a2⟩ := opsS_rep (O := O) (H := H) (w := w) (a := a) as_.toList l ha (fun x hx s hs' => hst.slotsAt as_ x (by simpa using hx) s hs')
  have hrun := run_call (o := o) hspec.can a w g as_ ts ho hgv rfl
  have hrep := rep_app (by rw [List.length_append, List.length_append, hl, List.length_map, a1]) (rep_app hl hx a2) hy
  obtain ⟨m1, m2⟩ := mapM_some hv
  obtain ⟨q1, q2⟩ := hle.get
  have hlen : (xs ++ as_.toList.map a.eval ++ ys).length = (fs ++ l ++ cs).length := by simp only [List.length_append, List.length_map, hl, hl', a1]
  unfold Oper.wp
  rw [hrun]
  refine (hspec.run zO w _ (by rw [hlen, ← m1, q1]) (fun i x s hi hs' => ?_)).mono ?_
  ·have hlt' : i < args'.length := by rw [q1]; exact (List.getElem?_eq_some_iff.1 hs').1
   have hlt : i < (fs ++ l ++ cs).length := by rw [← m1]; exact hlt'
   exact q2 i _ _ (List.getElem?_eq_getElem hlt') hs' _ _ _ _ (RepS.view hst.mem 9 (hrep i x _ hi (List.getElem?_eq_getElem hlt)) (m2 i _ _ (List.getElem?_eq_getElem hlt) (List.getElem?_eq_getElem hlt')))
  ·rintro en w' ⟨F, v, rfl, hR, hb, hp⟩
   obtain ⟨O', hO'⟩ : ∃ O' : Nat → Nat, O' = fun b => if b < w.heap.size then O b else h + 1 := ⟨_, rfl⟩
   have hk : Keep none none O H w O' H w' := ⟨fun b hb' => by rw [hO']; simp [hb'], fun b hb' _ => hb.block b hb', fun _ _ => rfl⟩
   refine hK _ _ (hn F v hR O' H _ _ ⟨?_, ?_, hst.bl.trans (hb.mono hsz), fun b hb' => (hk.lab b (by omega)).trans (hst.lab b hb'), ?_, fun n m hm => ?_⟩)
   ·rw [hd]; exact hst.df
   ·rw [hd]; simp [Act.put, hst.sz]
   ·rw [hd]
    exact put_slots hst.sz hdN (.d _ _ (.v _)) fun n s hs => by
     obtain ⟨y, hy, hr⟩ := hst.slots n s hs
     exact ⟨y, hy, hr.mono0 hk⟩
   ·rcases look_cons hm with ⟨rfl, rfl⟩ | ⟨_, hm⟩
    ·intro b T l hF
     obtain ⟨h1, h2⟩ := hp b T l hF
     exact ⟨by omega, by rw [hO']; simp; omega, h2⟩
    ·exact (hst.mem n m hm).mono hk (by simp) (by simp) 0 (fun h he => by cases he) (.inl rfl)
theorem Tr.freezeP (h n : Nat) {F : PF} {v : Value} {s : S} (hM : look M h = some (.any (pinK F))) (hn : look e n = some (.d (.v v)))
  (hr : ∀ (O : Nat → Nat) (w : World), (∀ b T l, F b = some (T, l) → O b = 0 ∧ w.heap[b]? = some (.cells l.toArray T (0, 0))) → ∀ H, RepS O H w v s)
  (hc : Tr P N w0 O0 ((n, s) :: e) ((h, .gone) :: M) c Q) : Tr P N w0 O0 e M c Q := by
 intro O H a w hst
 have hm := hst.mem h _ hM
 obtain ⟨O', hO'⟩ : ∃ O' : Nat → Nat, O' = fun b => if (F b).isSome then 0 else O b := ⟨_, rfl⟩
 have hk : Keeps O w O' w := fun b _ h0 => ⟨by rw [hO']; simp only []; split; rfl; exact h0, rfl⟩
 have hin : ∀ b, (F b).isSome = true → w0.heap.size ≤ b ∧ O b = h + 1 := fun b hb => by
  obtain ⟨p, hp⟩ := Option.isSome_iff_exists.1 hb
  obtain ⟨g1, g2, _⟩ := hm b p.1 p.2 hp
  exact ⟨g1, g2⟩
 refine hc O' H a w ⟨hst.df, hst.sz, hst.bl, fun b hb => ?_, fun m t hs => ?_, fun m mo hmo => ?_⟩
 ·rw [hO']; simp only []; rw [if_neg (fun hs => by have := (hin b hs).1; omega)]; exact hst.lab b hb
 ·rcases look_cons hs with ⟨rfl, rfl⟩ | ⟨_, hs⟩
  ·obtain ⟨x, hx, hxr⟩ := hst.slots _ _ hn
   refine ⟨x, hx, ?_⟩
   rw [rep_v hxr]
   exact hr O' w (fun b T l hF => ⟨by rw [hO']; simp [hF], (hm b T l hF).2.2⟩) H
  ·obtain ⟨x, hx, hxr⟩ := hst.slots m t hs
   exact ⟨x, hx, hxr.keeps hk⟩
 ·rcases look_cons hmo with ⟨rfl, rfl⟩ | ⟨hne, hmo⟩
  ·trivial
  ·exact (hst.mem m mo hmo).relab hk fun b hb => by rw [hO']; simp only []; rw [if_neg (fun hs => by have := (hin b hs).2; omega)]; exact hb
end
abbrev tbS (t : Tb) : S := .p [rows t.rs, ints t.bs, .v (.int .i64 t.dn)]
theorem tab_rep {g : Ids} {t : Tb} (hk : TabOk g t) {O : Nat → Nat} {w : World} (h : ∀ b T l, tabF g t b = some (T, l) → O b = 0 ∧ w.heap[b]? = some (.cells l.toArray T (0, 0))) (H : Nat → Value) : RepS O H w (ptr g.s 0) (tbS t) := by
 obtain ⟨s1, s2⟩ := h _ _ _ (tab_s (g := g) (t := t))
 obtain ⟨r1, r2⟩ := h _ _ _ (tab_r hk)
 have hrows : RepD O w (slc g.r t.rs.length g.rc) (rows t.rs) := by
  have hl : (t.rs.map fun r => [ints r]).length = t.rs.length := by simp
  have := RepD.s (O := O) (w := w) g.r 0 g.rc 1 (t.rs.map fun r => [ints r]) (fun i => slc (rbk g i) g.w (rck g i)) (by rw [hl]; exact hk.rc.1) hk.rc.2 (fun r hr => by obtain ⟨x, _, rfl⟩ := List.mem_map.1 hr; rfl) (fun _ _ _ _ _ _ => r1) (fun i r j d hi hj => ?_) (fun i r j d hi hj => ?_)
  ·rw [hl] at this; exact this
  all_goals
   rw [List.getElem?_map, Option.map_eq_some_iff] at hi
   obtain ⟨x, hx, rfl⟩ := hi
   obtain ⟨hi', hxe⟩ := List.getElem?_eq_some_iff.1 hx
   obtain rfl : j = 0 := by have := (List.getElem?_eq_some_iff.1 hj).1; simp at this; exact this
   simp only [List.getElem?_cons_zero, Option.some.injEq] at hj
   subst hj
   have e1 : i * 1 + 0 = i := by omega
   have hlb : i < g.rb.length := by have := hk.len; omega
  ·rw [e1]
   refine cellOf r2 ?_
   rw [Nat.zero_add]
   simp only [List.getElem?_toArray]
   rw [List.getElem?_append_left (by simpa using hlb), List.getElem?_map, List.getElem?_range hlb, Option.map_some]
  ·rw [e1]
   obtain ⟨b1, b2⟩ := h _ _ _ (tab_row hk (i := (i : Int)) (by omega) (by omega))
   have hw := hk.w i hi'
   have hxn : nth t.rs i = x := by rw [nth_eq hi', hxe]
   rw [hxn] at b2 hw
   have hl2 : (x.map fun n => [D.v (.int .i64 n)]).length = g.w := by simpa using hw
   have := RepD.s (O := O) (w := w) (rbk g i) 0 (rck g i) 1 (x.map fun n => [D.v (.int .i64 n)]) (fun j => .int .i64 (x.getD j 0)) (by rw [hl2]; exact (hk.cc i hi').1) (hk.cc i hi').2 (fun r hr => by obtain ⟨y, _, rfl⟩ := List.mem_map.1 hr; rfl) (fun _ _ _ _ _ _ => b1) (fun i2 r2 j2 d2 hi2 hj2 => ?_) (fun i2 r2 j2 d2 hi2 hj2 => ?_)
   ·rw [hl2] at this; exact this
   all_goals
    rw [List.getElem?_map, Option.map_eq_some_iff] at hi2
    obtain ⟨y, hy, rfl⟩ := hi2
    obtain rfl : j2 = 0 := by have := (List.getElem?_eq_some_iff.1 hj2).1; simp at this; exact this
    simp only [List.getElem?_cons_zero, Option.some.injEq] at hj2
    subst hj2
    have e2 : i2 * 1 + 0 = i2 := by omega
   ·rw [e2]
    refine cellOf b2 ?_
    rw [Nat.zero_add]
    simp only [List.getElem?_toArray]
    rw [List.getElem?_append_left (by have := (List.getElem?_eq_some_iff.1 hy).1; simpa [iv] using this)]
    simp [iv, hy]
   ·rw [e2]; simp [hy]; exact .v _
 have hbas : RepD O w (.slice g.ba t.bs.length g.bc) (ints t.bs) := by
  by_cases hb : t.bs = []
  ·rw [hb]; exact .e _ _ _ hk.bc.2
  ·obtain ⟨ba, _⟩ := hk.ba hb
   obtain ⟨b1, b2⟩ := h _ _ _ (tab_b hk hb)
   rw [ba]
   have hl2 : (t.bs.map fun n => [D.v (.int .i64 n)]).length = t.bs.length := by simp
   have := RepD.s (O := O) (w := w) g.bb 0 g.bc 1 (t.bs.map fun n => [D.v (.int .i64 n)]) (fun j => .int .i64 (t.bs.getD j 0)) (by rw [hl2]; exact hk.bc.1) hk.bc.2 (fun r hr => by obtain ⟨y, _, rfl⟩ := List.mem_map.1 hr; rfl) (fun _ _ _ _ _ _ => b1) (fun i2 r2 j2 d2 hi2 hj2 => ?_) (fun i2 r2 j2 d2 hi2 hj2 => ?_)
   ·rw [hl2] at this; exact this
   all_goals
    rw [List.getElem?_map, Option.map_eq_some_iff] at hi2
    obtain ⟨y, hy, rfl⟩ := hi2
    obtain rfl : j2 = 0 := by have := (List.getElem?_eq_some_iff.1 hj2).1; simp at this; exact this
    simp only [List.getElem?_cons_zero, Option.some.injEq] at hj2
    subst hj2
    have e2 : i2 * 1 + 0 = i2 := by omega
   ·rw [e2]
    refine cellOf b2 ?_
    rw [Nat.zero_add]
    simp only [List.getElem?_toArray]
    rw [List.getElem?_append_left (by have := (List.getElem?_eq_some_iff.1 hy).1; simpa [iv] using this)]
    simp [iv, hy]
   ·rw [e2]; simp [hy]; exact .v _
 refine .p g.s 0 _ (fun j => [slc g.r t.rs.length g.rc, .slice g.ba t.bs.length g.bc, .int .i64 t.dn].getD j undef) (fun _ _ _ => s1) (fun j d hd => ?_) (fun j d hd => ?_)
 ·have hj := (List.getElem?_eq_some_iff.1 hd).1
  refine cellOf s2 ?_
  rw [Nat.zero_add]
  simp only [List.length_cons, List.length_nil] at hj
  rcases j with _ | _ | _ | j <;> first | rfl | omega
 ·have hj := (List.getElem?_eq_some_iff.1 hd).1
  simp only [List.length_cons, List.length_nil] at hj
  rcases j with _ | _ | _ | j
  ·simp at hd; subst hd; exact hrows
  ·simp at hd; subst hd; exact hbas
  ·simp at hd; subst hd; exact .v _
  ·omega
end Go.Eng
end

section
namespace Go.Eng
theorem gcd_step {a b : Int} : Int.gcd b (a.tmod b) = Int.gcd a b := by
 unfold Int.gcd
 rw [Int.natAbs_tmod, Nat.gcd_comm, ← Nat.gcd_rec, Nat.gcd_comm]
theorem tmod_lt {a b : Int} (hb : b ≠ 0) : (a.tmod b).natAbs < b.natAbs := by
 rw [Int.natAbs_tmod]; exact Nat.mod_lt _ (by omega)
theorem gcd_max {a : Int} : max a (-a) = (Int.gcd a 0 : Int) := by
 unfold Int.gcd; simp only [Int.natAbs_zero, Nat.gcd_zero_right]; omega
structure LpOk (p : LPr) : Prop where
 r6 : p.rws.length ≤ 6
 o6 : p.obj.length ≤ 6
 b : p.bnd.length = p.rws.length
 o : ∀ j : Nat, j < p.obj.length → -20 ≤ nth p.obj j ∧ nth p.obj j ≤ 20
 w : ∀ i : Nat, i < p.rws.length → (nth p.rws i).length = p.obj.length
 bb : ∀ i : Nat, i < p.rws.length → -20 ≤ nth p.bnd i ∧ nth p.bnd i ≤ 20
 c : ∀ i : Nat, i < p.rws.length → ∀ j : Nat, j < p.obj.length → -4 ≤ nth (nth p.rws i) j ∧ nth (nth p.rws i) j ≤ 4
def vgTo (l : List Int) (d : Int) : Nat → Int
 | 0 => d
 | k + 1 => (Int.gcd (vgTo l d k) (nth l k) : Int)
def vgF (l : List Int) (d : Int) : Int := vgTo l d l.length
theorem vg_pos {l : List Int} {d : Int} (hd : 0 < d) : ∀ {k : Nat}, 0 < vgTo l d k ∧ vgTo l d k ≤ d
 | 0 => ⟨hd, Int.le_refl _⟩
 | k + 1 => by
  obtain ⟨h1, h2⟩ := vg_pos (l := l) hd (k := k)
  simp only [vgTo]
  have h3 : Int.gcd (vgTo l d k) (nth l k) ≤ (vgTo l d k).natAbs := Nat.le_of_dvd (by omega) (Int.gcd_dvd_natAbs_left _ _)
  have h4 : 0 < Int.gcd (vgTo l d k) (nth l k) := Int.gcd_pos_of_ne_zero_left _ (by omega)
  omega
def vnL (l : List Int) (d : Int) : List Int := l.map fun n => n.tdiv (vgF l d)
def vnS (l : List Int) (d : Int) (k : Nat) : List Int := (List.range l.length).map fun (i : Nat) => if i < k then (nth l i).tdiv (vgF l d) else 0
theorem vn_len {l : List Int} {d : Int} {k : Nat} : (vnS l d k).length = l.length := by simp [vnS]
theorem vn_0 {l : List Int} {d : Int} : vnS l d 0 = List.replicate l.length 0 := by
 apply List.ext_getElem (by simp [vnS])
 intro i h1 h2; simp [vnS]
theorem vn_s {l : List Int} {d : Int} {k : Nat} (hk : k < l.length) : (vnS l d k).set k ((nth l k).tdiv (vgF l d)) = vnS l d (k + 1) := by
 apply List.ext_getElem (by simp [vnS])
 intro j h1 h2
 rw [List.getElem_set]
 simp only [vnS, List.getElem_map, List.getElem_range]
 by_cases hj : k = j
 ·subst hj; simp
 ·rw [if_neg hj]
  by_cases h : j < k
  ·rw [if_pos h, if_pos (by omega)]
  ·rw [if_neg h, if_neg (by omega)]
theorem vn_end {l : List Int} {d : Int} : vnS l d l.length = vnL l d := by
 apply List.ext_getElem (by simp [vnS, vnL])
 intro j h1 h2
 have hj : j < l.length := by simpa [vnL] using h2
 simp only [vnS, vnL, List.getElem_map, List.getElem_range]
 rw [if_pos hj, nth_eq hj]
def ptTo (t : Tb) (n : Nat) (col sign : Int) : Nat → List Int
 | 0 => List.replicate n 0
 | k + 1 => if nth t.bs k < n then (ptTo t n col sign k).set (nth t.bs k).toNat (sign * cel t k col) else ptTo t n col sign k
theorem pt_len {t : Tb} {n : Nat} {col sign : Int} : ∀ {k : Nat}, (ptTo t n col sign k).length = n
 | 0 => by simp [ptTo]
 | k + 1 => by simp only [ptTo]; split; rw [List.length_set]; exact pt_len; exact pt_len
theorem pt_t {t : Tb} {n : Nat} {col sign : Int} {k : Nat} (h : nth t.bs k < n) : ptTo t n col sign (k + 1) = (ptTo t n col sign k).set (nth t.bs k).toNat (sign * cel t k col) := by simp only [ptTo]; rw [if_pos h]
theorem pt_f {t : Tb} {n : Nat} {col sign : Int} {k : Nat} (h : ¬ nth t.bs k < n) : ptTo t n col sign (k + 1) = ptTo t n col sign k := by simp only [ptTo]; rw [if_neg h]
def ptF (t : Tb) (n : Nat) (col sign : Int) : List Int := ptTo t n col sign t.bs.length
theorem tdiv_le {a b : Int} : (a.tdiv b).natAbs ≤ a.natAbs := by rw [Int.natAbs_tdiv]; exact Nat.div_le_self _ _
theorem tdiv_pos {a b : Int} (h1 : 0 < b) (h2 : b ≤ a) : 0 < a.tdiv b := by
 rw [Int.tdiv_eq_ediv_of_nonneg (by omega)]
 have := (Int.le_ediv_iff_mul_le (a := 1) (b := a) h1).2 (by omega)
 omega
def lowF (n d : Int) : Int × Int := (n.tdiv (Int.gcd n d : Int), d.tdiv (Int.gcd n d : Int))
theorem low_ok {n d : Int} (h0 : -1000000000 ≤ n) (h1 : n ≤ 1000000000) (h2 : 0 < d) (h3 : d ≤ 1000000000) : -1000000000 ≤ (lowF n d).1 ∧ (lowF n d).1 ≤ 1000000000 ∧ 0 < (lowF n d).2 ∧ (lowF n d).2 ≤ 1000000000 ∧ Int.gcd (lowF n d).1 (lowF n d).2 = 1 ∧ 0 < (Int.gcd n d : Int) ∧ (Int.gcd n d : Int) ≤ d := by
 have hg : 0 < Int.gcd n d := Int.gcd_pos_of_ne_zero_right _ (by omega)
 have hgd : Int.gcd n d ≤ d.natAbs := Nat.le_of_dvd (by omega) (Int.gcd_dvd_natAbs_right _ _)
 have a1 := tdiv_le (a := n) (b := (Int.gcd n d : Int))
 have a2 := tdiv_le (a := d) (b := (Int.gcd n d : Int))
 have a3 := tdiv_pos (a := d) (b := (Int.gcd n d : Int)) (by omega) (by omega)
 unfold lowF
 refine ⟨by simp only []; omega, by simp only []; omega, a3, by simp only []; omega, ?_, by omega, by omega⟩
 simp only []
 unfold Int.gcd
 rw [Int.natAbs_tdiv, Int.natAbs_tdiv]
 simp only [Int.natAbs_natCast]
 unfold Int.gcd at hg
 have e1 : (n.natAbs.div (n.natAbs.gcd d.natAbs)).gcd (d.natAbs.div (n.natAbs.gcd d.natAbs)) = n.natAbs.gcd d.natAbs / n.natAbs.gcd d.natAbs := Nat.gcd_div (Nat.gcd_dvd_left _ _) (Nat.gcd_dvd_right _ _)
 rw [e1]; exact Nat.div_self hg
end Go.Eng
end

section
namespace Go.Eng
section
variable {P : Program} {B : Nat} {o : Oper} {e : Env} {M : Mem}
theorem OpSt.copyX {t1 t2 T h : Nat} {x y : Operand} {rows src : List (List D)} (ho : o.op = .call { callee := .builtin .copy, args := #[x, y], argTypes := #[t1, t2] }) (hx : opS e x = some (.o h)) (hy : opS e y = some (.d (.s 1 src)))
  (hk : esz P t1 = some 1) (hone : ∀ r, r ∈ src → r.all D.one = true) (h1 : 0 < rows.length) (h2 : src.length ≤ rows.length) :
  OpSt P B o e h (.own 1 T rows) (.own 1 T (src ++ rows.drop src.length)) (.d (.v (.int .i64 src.length))) := by
 rcases Nat.eq_zero_or_pos src.length with h0 | h0
 ·have hs : src = [] := List.eq_nil_of_length_eq_zero h0
  subst hs
  intro O H a w hBw hsl hm K hK
  have hx' := hsl x (by simp [ho, Op.operands, Call.operands]) _ hx
  have hy' := hsl y (by simp [ho, Op.operands, Call.operands]) _ hy
  obtain ⟨b, cap, xs, g1, g2, g3, g4, g5, g6, g7, g8, g9⟩ := hm.ownSome h1
  generalize hv : a.eval x = v at hx'
  generalize hu : a.eval y = u at hy'
  cases hx' with
  | o h h1' =>
   cases hy' with
   | d _ _ hy' =>
    obtain ⟨ad, c, rfl, hcm⟩ := hy'.slice
    obtain ⟨e1, i, hi1, hi2⟩ := esz_spec hk
    have hrun := run_copy_none (P := P) w t1 t2 o.type (P.elem t1) (some ⟨b, 0, none⟩) ad rows.length cap 0 c e1 (by rw [hi1]; simp [hi2]) (by simp)
    have hex : (execOp a.eval o).run P w = .ok (.value (goInt 0)) w := by rw [g1] at hv; simp [execOp, ho, resolve, invoke, builtin, hv, hu, hrun]
    unfold Oper.wp
    rw [hex]
    exact hK w _ (.refl _ _ _ _ _) (.refl _ _) (by simpa using hm) (by unfold goInt; exact .d _ _ (.v _))
 ·exact OpSt.copyO ho hx hy hk hone h0 h2
end
def ntW (p : LPr) : Nat := p.obj.length + p.rws.length + 2
def ntRow (p : LPr) (i : Nat) : List Int := (List.range (ntW p)).map fun (j : Nat) => if j < p.obj.length then nth (nth p.rws i) j else if j = p.obj.length + i then 1 else if j = p.obj.length + p.rws.length then -1 else if j = p.obj.length + p.rws.length + 1 then nth p.bnd i else 0
def ntGo (p : LPr) (k : Nat) : List Int := (List.range (ntW p)).map fun (j : Nat) => if j < k then -(nth p.obj j) else 0
def ntGoal (p : LPr) : List Int := ntGo p p.obj.length
def ntArt (p : LPr) : List Int := (List.range (ntW p)).map fun (j : Nat) => if j = p.obj.length + p.rws.length then 1 else 0
def ntR (p : LPr) (i : Nat) : List Int := if i < p.rws.length then ntRow p i else if i = p.rws.length then ntGoal p else ntArt p
def ntBs (p : LPr) (k : Nat) : List Int := (List.range k).map fun (i : Nat) => ((p.obj.length + i : Nat) : Int)
def newTab (p : LPr) : Tb := ⟨(List.range (p.rws.length + 2)).map (ntR p), ntBs p p.rws.length, 1⟩
section
variable {p : LPr} {i k : Nat}
theorem ntRow_len : (ntRow p i).length = ntW p := by simp [ntRow]
theorem ntGo_len : (ntGo p k).length = ntW p := by simp [ntGo]
theorem ntArt_len : (ntArt p).length = ntW p := by simp [ntArt]
theorem ntR_len : (ntR p i).length = ntW p := by unfold ntR; split; exact ntRow_len; split; exact ntGo_len; exact ntArt_len
theorem ntBs_s : ntBs p (k + 1) = ntBs p k ++ [((p.obj.length + k : Nat) : Int)] := by simp [ntBs, List.range_succ]
theorem ntBs_len : (ntBs p k).length = k := by simp [ntBs]
theorem ntGo_0 : ntGo p 0 = List.replicate (ntW p) 0 := by
 apply List.ext_getElem (by simp [ntGo])
 intro i h1 h2; simp [ntGo]
theorem ntGo_s (hk : k < ntW p) : (ntGo p k).set k (-(nth p.obj k)) = ntGo p (k + 1) := by
 apply List.ext_getElem (by simp [ntGo])
 intro j h1 h2
 rw [List.getElem_set]
 simp only [ntGo, List.getElem_map, List.getElem_range]
 by_cases hj : k = j
 ·subst hj; simp
 ·rw [if_neg hj]
  by_cases h : j < k
  ·rw [if_pos h, if_pos (by omega)]
  ·rw [if_neg h, if_neg (by omega)]
theorem ntArt_s : (List.replicate (ntW p) (0 : Int)).set (p.obj.length + p.rws.length) 1 = ntArt p := by
 apply List.ext_getElem (by simp [ntArt])
 intro j h1 h2
 rw [List.getElem_set]
 simp only [ntArt, List.getElem_map, List.getElem_range, List.getElem_replicate]
 by_cases hj : p.obj.length + p.rws.length = j
 ·rw [if_pos hj, if_pos hj.symm]
 ·rw [if_neg hj, if_neg (fun e => hj e.symm)]
theorem ntRow_s (hi : i < p.rws.length) (hw : (nth p.rws i).length = p.obj.length) : (((nth p.rws i ++ List.replicate (p.rws.length + 2) (0 : Int)).set (p.obj.length + i) 1).set (p.obj.length + p.rws.length) (-1)).set (p.obj.length + p.rws.length + 1) (nth p.bnd i) = ntRow p i := by
 apply List.ext_getElem (by simp [ntRow, ntW]; omega)
 intro j h1 h2
 simp only [List.getElem_set]
 simp only [ntRow, List.getElem_map, List.getElem_range]
 by_cases h3 : p.obj.length + p.rws.length + 1 = j
 ·rw [if_pos h3, if_neg (by omega), if_neg (by omega), if_neg (by omega), if_pos h3.symm]
 ·rw [if_neg h3]
  by_cases h4 : p.obj.length + p.rws.length = j
  ·rw [if_pos h4, if_neg (by omega), if_neg (by omega), if_pos h4.symm]
  ·rw [if_neg h4]
   by_cases h5 : p.obj.length + i = j
   ·rw [if_pos h5, if_neg (by omega), if_pos h5.symm]
   ·rw [if_neg h5]
    by_cases h6 : j < p.obj.length
    ·rw [if_pos h6, List.getElem_append_left (by omega)]; exact (nth_eq (by omega)).symm
    ·rw [if_neg h6, if_neg (fun e => h5 e.symm), if_neg (fun e => h4 e.symm), if_neg (fun e => h3 e.symm), List.getElem_append_right (by omega), List.getElem_replicate]
end
abbrev Blk := Nat × Nat × List Value
def rhd (w : Nat) (L : List Blk) : List Value := L.map fun x => slc x.1 w x.2.1
noncomputable def rowF (T : Nat) (f : Nat → List Int) (L : List Blk) : PF := fun b => if b ∈ L.map (·.1) then some (T, iv (f ((L.map (·.1)).idxOf b)) ++ (L.map (·.2.2)).getD ((L.map (·.1)).idxOf b) []) else none
theorem rowF_0 {T : Nat} {f : Nat → List Int} : rowF T f [] = noF := by funext b; simp [rowF]
theorem rowF_none {T : Nat} {f : Nat → List Int} {L : List Blk} {b : Nat} (h : rowF T f L b = none) : b ∉ L.map (·.1) := fun hm => by unfold rowF at h; rw [if_pos hm] at h; cases h
theorem rowF_s {T : Nat} {f : Nat → List Int} {L : List Blk} {b cap : Nat} {tl : List Value} (h : rowF T f L b = none) : updF (rowF T f L) b T (iv (f L.length) ++ tl) = rowF T f (L ++ [(b, cap, tl)]) := by
 have hn := rowF_none h
 funext c
 unfold updF rowF
 simp only [List.map_append, List.map_cons, List.map_nil, List.mem_append, List.mem_singleton]
 by_cases hc : c = b
 ·subst hc
  rw [if_pos rfl, if_pos (.inr rfl), List.idxOf_append, if_neg hn]
  simp
 ·rw [if_neg hc]
  by_cases hm : c ∈ L.map (·.1)
  ·rw [if_pos hm, if_pos (.inl hm), List.idxOf_append, if_pos hm]
   have hlt : (L.map (·.1)).idxOf c < L.length := by have := List.idxOf_lt_length_iff.2 hm; simpa using this
   congr 3
   simp only [List.getD_eq_getElem?_getD]
   rw [List.getElem?_append_left (by simpa using hlt)]
  ·rw [if_neg hm, if_neg (fun h => h.elim hm hc)]
theorem nd_snoc {L : List Nat} {b : Nat} (h : L.Nodup) (hb : b ∉ L) : (L ++ [b]).Nodup := by
 rw [List.nodup_append]
 exact ⟨h, by simp, fun x hx y hy => by simp at hy; subst hy; exact fun e => hb (e ▸ hx)⟩
theorem rhd_s {w : Nat} {L : List Blk} {x : Blk} : rhd w (L ++ [x]) = rhd w L ++ [slc x.1 w x.2.1] := by simp [rhd]
theorem pin_r {p : LPr} {T k b cap : Nat} {L : List Blk} {tl : List Value} (hk : k < p.rws.length) (hL : L.length = k) (hF : rowF T (ntR p) L b = none) : updF (rowF T (ntR p) L) b T (iv (ntRow p k) ++ tl) = rowF T (ntR p) (L ++ [(b, cap, tl)]) := by
 have : ntRow p k = ntR p L.length := by unfold ntR; rw [if_pos (by omega), hL]
 rw [this]; exact rowF_s hF
theorem pin_g {p : LPr} {T b cap : Nat} {L : List Blk} {tl : List Value} (hL : L.length = p.rws.length) (hF : rowF T (ntR p) L b = none) : updF (rowF T (ntR p) L) b T (iv (ntGoal p) ++ tl) = rowF T (ntR p) (L ++ [(b, cap, tl)]) := by
 have : ntGoal p = ntR p L.length := by unfold ntR; rw [if_neg (by omega), if_pos (by omega)]
 rw [this]; exact rowF_s hF
theorem pin_a {p : LPr} {T b cap : Nat} {L : List Blk} {tl : List Value} (hL : L.length = p.rws.length + 1) (hF : rowF T (ntR p) L b = none) : updF (rowF T (ntR p) L) b T (iv (ntArt p) ++ tl) = rowF T (ntR p) (L ++ [(b, cap, tl)]) := by
 have : ntArt p = ntR p L.length := by unfold ntR; rw [if_neg (by omega), if_neg (by omega)]
 rw [this]; exact rowF_s hF
theorem nt_caps {p : LPr} {l : List Int} {b cap : Nat} {L : List Blk} {tl : List Value} (h : ∀ x, x ∈ L → ntW p ≤ x.2.1 ∧ x.2.1 ≤ maxLen) (hl : l.length = ntW p) (h1 : (iv l).length ≤ cap) (h2 : cap ≤ maxLen) : ∀ x, x ∈ L ++ [(b, cap, tl)] → ntW p ≤ x.2.1 ∧ x.2.1 ≤ maxLen := by
 intro x hx
 rcases List.mem_append.1 hx with hx | hx
 ·exact h x hx
 ·simp at hx; subst hx; simp only [iv, List.length_map] at h1; exact ⟨by simp only []; omega, h2⟩
section
variable {P : Program} {N : Nat} {w0 : World} {O0 : Nat → Nat} {ops : Array Oper} {Q : Post} {e : Env} {M : Mem} {rest : List Oper}
theorem TrOps.memEq {h : Nat} {m m' : Mo} (hM : look M h = some m) (he : m = m') (hn : TrOps P N w0 O0 ops Q e ((h, m') :: M) rest) : TrOps P N w0 O0 ops Q e M rest := by
 subst he
 exact fun O H a w hst => hn O H a w (hst.memSet (hst.mem _ _ hM))
theorem Tr.memEq {c : Code} {h : Nat} {m m' : Mo} (hM : look M h = some m) (he : m = m') (hn : Tr P N w0 O0 e ((h, m') :: M) c Q) : Tr P N w0 O0 e M c Q := by
 subst he
 exact fun O H a w hst => hn O H a w (hst.memSet (hst.mem _ _ hM))
end
theorem nt_i1 {a b : Nat} : ((a : Int) + (b : Int)).toNat = a + b := by omega
theorem nt_i3 {a b : Nat} : ((a : Int) + (b : Int) + 1).toNat = a + b + 1 := by omega
theorem nt_dr {a b : Nat} : ((a : Int) + (b : Int) + 2).toNat - a = b + 2 := by omega
def NewR (p : LPr) (F : PF) (v : Value) : Prop := ∃ g, TabOk g (newTab p) ∧ g.w = ntW p ∧ F = tabF g (newTab p) ∧ v = ptr g.s 0
theorem new_fin {p : LPr} (hp : LpOk p) {L : List Blk} (hl : L.length = p.rws.length + 2) (hn : (L.map (·.1)).Nodup) (hcc : ∀ x, x ∈ L → ntW p ≤ x.2.1 ∧ x.2.1 ≤ maxLen) {TI TR Tt r rc : Nat} {rt : List Value} {F1 F2 F3 : PF}
  (hr : rowF TI (ntR p) L r = none) (hrc : (rhd (ntW p) L).length ≤ rc ∧ rc ≤ maxLen) (h1 : F1 = updF (rowF TI (ntR p) L) r TR (rhd (ntW p) L ++ rt))
  {a : Option Addr} {bb bc : Nat} {bt : List Value} (hbc : (iv (ntBs p p.rws.length)).length ≤ bc ∧ bc ≤ maxLen) (hb : (a = none ∧ iv (ntBs p p.rws.length) = [] ∧ F2 = F1) ∨ (a = some ⟨bb, 0, none⟩ ∧ F1 bb = none ∧ F2 = updF F1 bb TI (iv (ntBs p p.rws.length) ++ bt)))
  {s : Nat} (hs : F2 s = none) (h3 : F3 = updF F2 s Tt [slc r (rhd (ntW p) L).length rc, .slice a (iv (ntBs p p.rws.length)).length bc, .int .i64 1]) : NewR p F3 (ptr s 0) := by
 have hr6 := hp.r6
 have ho6 := hp.o6
 have hrn := rowF_none hr
 have hrl : (rhd (ntW p) L).length = p.rws.length + 2 := by simp [rhd, hl]
 have hbl : (iv (ntBs p p.rws.length)).length = p.rws.length := by simp [iv, ntBs_len]
 have hml : (6 : Nat) + 2 ≤ maxLen := by simp [maxLen]
 have hsr : s ≠ r := fun e => by
  subst e
  have hF1 : F1 s ≠ none := by rw [h1]; simp [updF]
  rcases hb with ⟨_, _, rfl⟩ | ⟨_, hb0, rfl⟩
  ·exact hF1 hs
  ·unfold updF at hs; split at hs; cases hs; exact hF1 hs
 have hF1L : ∀ c, c ∈ L.map (·.1) → F1 c ≠ none := fun c hc => by
  rw [h1]; unfold updF rowF; split
  ·simp
  ·simp [hc]
 have hsL : s ∉ L.map (·.1) := fun hm => by
  rcases hb with ⟨_, _, rfl⟩ | ⟨_, hb0, rfl⟩
  ·exact hF1L s hm hs
  ·unfold updF at hs; split at hs; cases hs; exact hF1L s hm hs
 obtain ⟨bb', hbb'⟩ : ∃ bb', bb' = if a = none then s else bb := ⟨_, rfl⟩
 have hbb1 : bb' ∉ L.map (·.1) ∧ bb' ≠ r := by
  rcases hb with ⟨rfl, _, _⟩ | ⟨rfl, hb0, _⟩
  ·rw [hbb', if_pos rfl]; exact ⟨hsL, hsr⟩
  ·rw [hbb', if_neg (by simp)]
   exact ⟨fun hm => hF1L bb hm hb0, fun e => by subst e; rw [h1] at hb0; simp [updF] at hb0⟩
 refine ⟨⟨s, r, rc, rt, a, bb', bc, bt, L.map (·.1), L.map (·.2.1), L.map (·.2.2), ntW p, Tt, TR, TI⟩, ?_, rfl, ?_, rfl⟩
 ·refine ⟨fun e => hsr e.symm, hn, hsL, hrn, hbb1.1, hbb1.2, fun hbs => ?_, by simp [newTab, hl], fun i hi => ?_, by simp [newTab, hrl] at hrc ⊢; exact hrc, by simp [newTab, ntBs_len, hbl] at hbc ⊢; exact hbc, fun i hi => ?_, by simp only [ntW]; omega, by simp [newTab]; omega, by simp [newTab, ntBs_len]; omega⟩
  ·rcases hb with ⟨_, h0, _⟩ | ⟨rfl, hb0, rfl⟩
   ·exfalso; apply hbs
    have : (ntBs p p.rws.length).length = 0 := by have := congrArg List.length h0; rw [hbl] at this; rw [ntBs_len]; simpa using this
    exact List.eq_nil_of_length_eq_zero this
   ·rw [hbb', if_neg (by simp)]
    refine ⟨rfl, fun e => ?_⟩
    simp only [] at e
    subst e
    simp [updF] at hs
  ·have hi' : i < p.rws.length + 2 := by simpa [newTab] using hi
   unfold newTab
   rw [nth_rangeMap hi']
   exact ntR_len
  ·have hi' : i < L.length := by rw [hl]; simpa [newTab] using hi
   have : rck ⟨s, r, rc, rt, a, bb', bc, bt, L.map (·.1), L.map (·.2.1), L.map (·.2.2), ntW p, Tt, TR, TI⟩ i = (L[i]).2.1 := by simp [rck, hi']
   rw [this]; exact hcc _ (List.getElem_mem _)
 ·rw [h3]
  funext c
  unfold updF tabF
  by_cases hcs : c = s
  ·subst hcs
   rw [if_pos rfl, if_pos rfl]
   simp [newTab, hrl, hbl, ntBs_len]
  ·rw [if_neg hcs]
   simp only [hcs, if_false]
   have hF1r : F1 r = some (TR, rhd (ntW p) L ++ rt) := by rw [h1]; simp [updF]
   by_cases hcr : c = r
   ·subst hcr
    rw [if_pos rfl]
    have hF2 : F2 c = F1 c := by
     rcases hb with ⟨_, _, rfl⟩ | ⟨_, hb0, rfl⟩
     ·rfl
     ·unfold updF; rw [if_neg (fun e => by rw [e, hb0] at hF1r; cases hF1r)]
    rw [hF2, hF1r]
    congr 3
    refine List.ext_getElem (by simp [rhd]) fun i h1 h2 => ?_
    have hi : i < L.length := by simpa [rhd] using h1
    simp [rhd, rbk, rck, hi]
   ·rw [if_neg hcr]
    by_cases hcb : c = bb'
    ·rw [if_pos hcb]
     rcases hb with ⟨rfl, _, _⟩ | ⟨rfl, hb0, rfl⟩
     ·rw [hbb', if_pos rfl] at hcb; exact absurd hcb hcs
     ·rw [hbb', if_neg (by simp)] at hcb
      subst hcb
      simp [updF, newTab]
    ·rw [if_neg hcb]
     have hF2 : F2 c = F1 c := by
      rcases hb with ⟨_, _, rfl⟩ | ⟨rfl, hb0, rfl⟩
      ·rfl
      ·rw [hbb', if_neg (by simp)] at hcb
       unfold updF; rw [if_neg hcb]
     rw [hF2, h1]
     unfold updF
     rw [if_neg hcr]
     unfold rowF
     by_cases hm : c ∈ L.map (·.1)
     ·have hlt : (L.map (·.1)).idxOf c < L.length := by have := List.idxOf_lt_length_iff.2 hm; simpa using this
      simp only [hm, if_true]
      unfold newTab
      rw [nth_rangeMap (by omega)]
      rfl
     ·simp only [hm, if_false]
end Go.Eng
end

section
namespace Go.Eng
inductive SolR (p : LPr) : Option (Int × Int) → Prop
 | inf {t1 : Tb} (hs : StartN (ntW p) (newTab p) t1 false) (hb : Bnd t1) (hd : 0 < t1.dn) : SolR p none
 | opt {t1 t2 : Tb} {k : Nat} (hs : StartN (ntW p) (newTab p) t1 true) (hm : MaxN (ntW p) p.rws.length (p.obj.length + p.rws.length) k t1 t2 (-1)) (hd : 0 < t2.dn) (hbs : ∀ i : Nat, i < p.rws.length → 0 ≤ nth t2.bs i) :
   SolR p (some (lowF (cel t2 p.rws.length (p.obj.length + p.rws.length + 1)) t2.dn))
def solT : Option (Int × Int) → Int
 | none => 2
 | some _ => 1
def solV : Option (Int × Int) → Int × Int
 | none => (0, 0)
 | some x => x
abbrev solS (o : Option (Int × Int)) : S := .g [I (solT o), I (solV o).1, I (solV o).2, .u, .u, .u, .u, .u, .u]
theorem SolR.unp {p : LPr} {o : Option (Int × Int)} (h : SolR p o) : ∃ b t1, StartN (ntW p) (newTab p) t1 b ∧ (b = false → o = none ∧ Bnd t1 ∧ 0 < t1.dn) ∧
  (b = true → ∃ t2 k, MaxN (ntW p) p.rws.length (p.obj.length + p.rws.length) k t1 t2 (-1) ∧ 0 < t2.dn ∧ (∀ i : Nat, i < p.rws.length → 0 ≤ nth t2.bs i) ∧ o = some (lowF (cel t2 p.rws.length (p.obj.length + p.rws.length + 1)) t2.dn)) := by
 cases h with
 | inf hs hb hd => exact ⟨false, _, hs, fun _ => ⟨rfl, hb, hd⟩, (fun h => by cases h)⟩
 | opt hs hm hd hbs => exact ⟨true, _, hs, (fun h => by cases h), fun _ => ⟨_, _, hm, hd, hbs, rfl⟩⟩
theorem newTab_rl {p : LPr} : (newTab p).rs.length = p.rws.length + 2 := by simp [newTab]
theorem newTab_bl {p : LPr} : (newTab p).bs.length = p.rws.length := by simp [newTab, ntBs_len]
theorem row_inB {t : Tb} (hb : Bnd t) {i : Int} : ∀ x, x ∈ nth t.rs i → inB x := fun x hx => by
 rcases Nat.lt_or_ge i.toNat t.rs.length with h1 | h1
 ·have e : nth t.rs i = t.rs[i.toNat] := by unfold nth; simp [h1]
  rw [e] at hx; exact hb.row _ (List.getElem_mem _) x hx
 ·have e : nth t.rs i = [] := by unfold nth; simp [h1]; rfl
  rw [e] at hx; cases hx
theorem pt_inB {t : Tb} (hb : Bnd t) {n : Nat} {col : Int} : ∀ {k : Nat}, ∀ x, x ∈ ptTo t n col 1 k → inB x
 | 0, x, hx => by simp [ptTo] at hx; rw [hx.2]; unfold inB; omega
 | k + 1, x, hx => by
  simp only [ptTo] at hx
  split at hx
  ·rcases List.mem_or_eq_of_mem_set hx with h | h
   ·exact pt_inB hb x h
   ·rw [h, Int.one_mul]; exact hb.cel
  ·exact pt_inB hb x hx
end Go.Eng
end

section
namespace Go.Eng
def entF (t : Tb) (ob : Int) (n : Nat) : Option Nat := (List.range n).find? fun (j : Nat) => decide (cel t ob j < 0)
theorem entF_some {t : Tb} {ob : Int} {n c : Nat} (h : entF t ob n = some c) : Ent t ob n c := by
 unfold entF at h
 rw [List.find?_range_eq_some] at h
 exact ⟨by simpa using h.2.1, fun j hj => by have := h.2.2 j hj; simp at this; omega, by simpa using h.1⟩
theorem entF_none {t : Tb} {ob : Int} {n : Nat} (h : entF t ob n = none) : ∀ j : Nat, j < n → 0 ≤ cel t ob j := fun j hj => by
 unfold entF at h
 rw [List.find?_range_eq_none] at h
 have := h j hj; simp at this; omega
def nzF (t : Tb) (r : Int) (w : Nat) : Option Nat := (List.range w).find? fun (j : Nat) => decide (cel t r j ≠ 0)
theorem nzF_some {t : Tb} {r : Int} {w c : Nat} (h : nzF t r w = some c) : Nzc t r w c := by
 unfold nzF at h
 rw [List.find?_range_eq_some] at h
 exact ⟨by simpa using h.2.1, fun j hj => by have := h.2.2 j hj; simpa using this, by simpa using h.1⟩
def maxF (w : Nat) (ob : Int) (n : Nat) : Nat → Tb → Option (Tb × Int)
 | 0, _ => none
 | f + 1, t => if bndB t then match entF t ob n with
  | none => some (t, -1)
  | some c => if lvF t c w < 0 then some (t, c) else maxF w ob n f (pivF t (lvF t c w) c)
  else none
theorem maxF_ok {w : Nat} {ob : Int} {n : Nat} : ∀ {f : Nat} {t t' : Tb} {x : Int}, maxF w ob n f t = some (t', x) → ∃ k, MaxN w ob n k t t' x
 | 0, _, _, _, h => by simp [maxF] at h
 | f + 1, t, t', x, h => by
  simp only [maxF] at h
  by_cases hb : bndB t = true
  ·rw [if_pos hb] at h
   cases he : entF t ob n with
   | none => rw [he] at h; simp at h; obtain ⟨rfl, rfl⟩ := h; exact ⟨0, .opt (bndB_ok hb) (entF_none he)⟩
   | some c =>
    rw [he] at h
    simp only [] at h
    by_cases hl : lvF t c w < 0
    ·rw [if_pos hl] at h; simp at h; obtain ⟨rfl, rfl⟩ := h; exact ⟨0, .unb (bndB_ok hb) (entF_some he) hl⟩
    ·rw [if_neg hl] at h
     obtain ⟨k, hk⟩ := maxF_ok h
     exact ⟨k + 1, .step (bndB_ok hb) (entF_some he) hl hk⟩
  ·rw [if_neg hb] at h; simp at h
def drvF (w : Nat) : Nat → Nat → Tb → Option Tb
 | 0, r, t => if r = t.bs.length then some t else none
 | f + 1, r, t => if r < t.bs.length then (if nth t.bs r = (w : Int) - 2 then (if bndB t then match nzF t r w with
   | some c => drvF w f (r + 1) (pivF t r c)
   | none => none else none) else drvF w f (r + 1) t) else if r = t.bs.length then some t else none
theorem drvF_ok {w : Nat} : ∀ {f r : Nat} {t t' : Tb}, drvF w f r t = some t' → DrvN w r t t'
 | 0, r, t, t', h => by
  simp only [drvF] at h
  split at h
  ·cases h; exact .done ‹_›
  ·cases h
 | f + 1, r, t, t', h => by
  simp only [drvF] at h
  split at h
  ·rename_i hr
   split at h
   ·rename_i hn
    split at h
    ·rename_i hb
     cases hz : nzF t r w with
     | none => rw [hz] at h; cases h
     | some c => rw [hz] at h; exact .piv hr hn (bndB_ok hb) (nzF_some hz) (drvF_ok h)
    ·cases h
   ·rename_i hn; exact .skip hr hn (drvF_ok h)
  ·split at h
   ·cases h; exact .done ‹_›
   ·cases h
def startF (w f : Nat) (t : Tb) : Option (Tb × Bool) :=
 if loF t w < 0 then some (t, true) else if bndB t then match maxF w (t.bs.length + 1) (w - 1) f (pivF t (loF t w) ((w : Int) - 2)) with
  | none => none
  | some (t2, _) => if cel t2 (t.bs.length + 1) ((w : Int) - 1) < 0 then some (t2, false) else (drvF w t2.bs.length 0 t2).map fun t3 => (t3, true)
 else none
theorem startF_ok {w f : Nat} {t t' : Tb} {b : Bool} (h : startF w f t = some (t', b)) : StartN w t t' b := by
 unfold startF at h
 split at h
 ·simp at h; obtain ⟨rfl, rfl⟩ := h; exact .pos ‹_›
 ·rename_i hl
  split at h
  ·rename_i hb
   cases hm : maxF w (t.bs.length + 1) (w - 1) f (pivF t (loF t w) ((w : Int) - 2)) with
   | none => rw [hm] at h; cases h
   | some y =>
    obtain ⟨t2, x⟩ := y
    rw [hm] at h
    obtain ⟨k, hk⟩ := maxF_ok hm
    simp only [] at h
    split at h
    ·simp at h; obtain ⟨rfl, rfl⟩ := h; exact .no (bndB_ok hb) hl hk ‹_›
    ·rename_i hn
     rw [Option.map_eq_some_iff] at h
     obtain ⟨t3, h3, h4⟩ := h
     simp at h4; obtain ⟨rfl, rfl⟩ := h4
     exact .yes (bndB_ok hb) hl hk hn (drvF_ok h3)
  ·cases h
def solF (p : LPr) (f : Nat) : Option (Option (Int × Int)) := match startF (ntW p) f (newTab p) with
 | none => none
 | some (t1, false) => if bndB t1 && decide (0 < t1.dn) then some none else none
 | some (t1, true) => match maxF (ntW p) p.rws.length (p.obj.length + p.rws.length) f t1 with
  | none => none
  | some (t2, x) => if x = -1 ∧ 0 < t2.dn ∧ (∀ i, i ∈ List.range p.rws.length → 0 ≤ nth t2.bs (i : Nat)) then some (some (lowF (cel t2 p.rws.length (p.obj.length + p.rws.length + 1)) t2.dn)) else none
theorem solF_ok {p : LPr} {f : Nat} {o : Option (Int × Int)} (h : solF p f = some o) : SolR p o := by
 unfold solF at h
 cases hs : startF (ntW p) f (newTab p) with
 | none => rw [hs] at h; cases h
 | some y =>
  obtain ⟨t1, b⟩ := y
  rw [hs] at h
  cases b with
  | false =>
   simp only [] at h
   split at h
   ·rename_i hc
    simp at h; subst h
    simp only [Bool.and_eq_true, decide_eq_true_eq] at hc
    exact .inf (startF_ok hs) (bndB_ok hc.1) hc.2
   ·cases h
  | true =>
   simp only [] at h
   cases hm : maxF (ntW p) p.rws.length (p.obj.length + p.rws.length) f t1 with
   | none => rw [hm] at h; cases h
   | some z =>
    obtain ⟨t2, x⟩ := z
    rw [hm] at h
    simp only [] at h
    split at h
    ·rename_i hc
     simp at h; subst h
     obtain ⟨rfl, h2, h3⟩ := hc
     obtain ⟨k, hk⟩ := maxF_ok hm
     exact .opt (startF_ok hs) hk h2 (fun i hi => h3 i (List.mem_range.2 hi))
    ·cases h
theorem MaxN.bnd {w : Nat} {ob : Int} {n k : Nat} {t t' : Tb} {x : Int} (h : MaxN w ob n k t t' x) : Bnd t' := by
 induction h with
 | opt hb _ => exact hb
 | unb hb _ _ => exact hb
 | step _ _ _ _ ih => exact ih
theorem SolR.in {p : LPr} {o : Option (Int × Int)} (h : SolR p o) : -1000000000 ≤ (solV o).1 ∧ (solV o).1 ≤ 1000000000 := by
 cases h with
 | inf _ _ _ => simp [solV]
 | opt _ hm hd _ =>
  have hb := hm.bnd
  have h1 := hb.cel (i := (p.rws.length : Int)) (j := (p.obj.length : Int) + (p.rws.length : Int) + 1)
  have h2 := hb.dn
  unfold inB at h1 h2
  have := low_ok h1.1 h1.2 hd h2.2
  exact ⟨this.1, this.2.1⟩
def bdR (t : Tsk) (o : Option (Int × Int)) : Int × Int := if cpF t = (0, 0) then (if solT o = 1 then (-(solV o).1, (solV o).2) else (1000000000, 1)) else (0, 0)
theorem bd_1 {t : Tsk} {o : Option (Int × Int)} (h : cpF t ≠ (0, 0)) : (0, 0) = bdR t o := by unfold bdR; rw [if_neg h]
theorem bd_2 {t : Tsk} {o : Option (Int × Int)} (h : cpF t = (0, 0)) (h2 : solT o ≠ 1) : (1000000000, 1) = bdR t o := by unfold bdR; rw [if_pos h, if_neg h2]
theorem bd_0 {t : Tsk} {o : Option (Int × Int)} (h : cpF t = (0, 0)) (h2 : solT o = 1) : (-(solV o).1, (solV o).2) = bdR t o := by unfold bdR; rw [if_pos h, if_pos h2]
theorem cpF_inv {t : Tsk} (h : cpF t = (0, 0)) : tskF t = (0, 0) ∧ ¬ CLarge t := by
 by_cases h1 : tskF t = (0, 0)
 ·by_cases h2 : CLarge t
  ·rw [← cpF_2 h1 h2] at h; simp at h
  ·exact ⟨h1, h2⟩
 ·rw [← cpF_1 h1] at h; exact absurd h h1
theorem cpA_ok {t : Tsk} (h : cpF t = (0, 0)) : LpOk (cpA t) := by
 obtain ⟨h1, h2⟩ := cpF_inv h
 have hV := tskF_v h1
 have hol := cl_ops h2
 have hrow : ∀ r, r ∈ (cpA t).rws → r.length = t.ops.length ∧ ∀ x, x ∈ r → -1 ≤ x ∧ x ≤ 1 := fun r hr => by
  rw [cpA_r] at hr
  have hr := List.mem_of_mem_take hr
  unfold allR at hr
  rcases List.mem_append.1 hr with hr | hr
  ·obtain ⟨q, _, rfl⟩ := List.mem_map.1 hr
   refine ⟨by simp [gRow], fun x hx => ?_⟩
   unfold gRow at hx
   obtain ⟨o, _, rfl⟩ := List.mem_map.1 hx
   have := chg_in (o := o) (p := q)
   omega
  ·obtain ⟨q, _, rfl⟩ := List.mem_map.1 hr
   refine ⟨by simp [lRow], fun x hx => ?_⟩
   unfold lRow at hx
   obtain ⟨i, _, rfl⟩ := List.mem_map.1 hx
   split <;> omega
 have hbn : ∀ x, x ∈ (cpA t).bnd → -1 ≤ x ∧ x ≤ 0 := fun x hx => by
  rw [cpA_b] at hx
  have hx := List.mem_of_mem_take hx
  unfold allB at hx
  rcases List.mem_append.1 hx with hx | hx
  ·obtain ⟨q, _, rfl⟩ := List.mem_map.1 hx
   unfold gBnd; split <;> omega
  ·obtain ⟨q, _, rfl⟩ := List.mem_map.1 hx
   omega
 have hob : (cpA t).obj.length = t.ops.length := by simp [cpA]
 have hbl : (cpA t).bnd.length = (cpA t).rws.length := by rw [cpA_r, cpA_b, List.length_take, List.length_take, all_len]
 refine ⟨?_, by omega, hbl, fun j hj => ?_, fun i hi => ?_, fun i hi => ?_, fun i hi j hj => ?_⟩
 ·rw [cpA_r, List.length_take]; omega
 ·have hj' : j < t.ops.length := by omega
  have hc := (hV.op j hj').2
  have hc2 := cl_cost h2 hj'
  have e : nth (cpA t).obj j = -(nth t.ops j).cost := by
   rw [nth_eq hj, nth_eq hj']; simp [cpA]
  rw [e]; omega
 ·have hm := nth_mem (l := (cpA t).rws) (n := (i : Int)) (by omega) (by omega)
  rw [(hrow _ hm).1, hob]
 ·have hm := nth_mem (l := (cpA t).bnd) (n := (i : Int)) (by omega) (by omega)
  have := hbn _ hm
  omega
 ·have hm := nth_mem (l := (cpA t).rws) (n := (i : Int)) (by omega) (by omega)
  obtain ⟨e1, e2⟩ := hrow _ hm
  have := e2 _ (nth_mem (l := nth (cpA t).rws i) (n := (j : Int)) (by omega) (by omega))
  omega
end Go.Eng
end

section
namespace Go.Eng
section
variable {p : LPr}
def A0 (p : LPr) (j : Int) : Vc := fun i => cel (newTab p) i j
def bc (p : LPr) (bs : List Int) : Nat → Vc := fun k => if k < p.rws.length then A0 p (nth bs k) else un k
variable {t : Tb} {r : Nat} {c : Nat}
end
end Go.Eng
end

section
namespace Go.Eng
section
variable {t : Tb} {c : Int} {w : Nat}
end
section
variable {p : LPr} {t : Tb} {ob n : Nat}
end
end Go.Eng
end

section
namespace Go.Eng
section
variable {p : LPr} {t : Tb} {ob n : Nat}
end
end Go.Eng
end

section
namespace Go.Eng
section
variable {p : LPr} {t : Tb}
end
end Go.Eng
end

section
namespace Go.Eng
section
variable {t : Tsk}
end
end Go.Eng
end

section
namespace Go.Eng
abbrev vecC (v : List Int × Int) : List D := [ints v.1, .v (.int .i64 v.2)]
abbrev vecS (v : List Int × Int) : S := .g [.d (ints v.1), I v.2]
abbrev vecsD (l : List (List Int × Int)) : D := .s 2 (l.map vecC)
def keepTo (s d : List Int) (k : Nat) : List Int := (s.take k).filter fun x => decide (x ∉ d)
theorem keep_0 {s d : List Int} : keepTo s d 0 = [] := by simp [keepTo]
theorem keep_t {s d : List Int} {k : Nat} (hk : k < s.length) (h : nth s k ∉ d) : keepTo s d (k + 1) = keepTo s d k ++ [nth s k] := by unfold keepTo; rw [tk_s hk, List.filter_append]; simp [h]
theorem keep_f {s d : List Int} {k : Nat} (hk : k < s.length) (h : nth s k ∈ d) : keepTo s d (k + 1) = keepTo s d k := by unfold keepTo; rw [tk_s hk, List.filter_append]; simp [h]
theorem keep_len {s d : List Int} {k : Nat} : (keepTo s d k).length ≤ s.length := by
 have h1 := List.length_filter_le (fun x => decide (x ∉ d)) (s.take k)
 rw [List.length_take] at h1
 unfold keepTo; omega
def upS (s a d : List Int) : List Int := dd (sortI (keepTo s d s.length ++ a))
theorem up_mem {s a d : List Int} {x : Int} : x ∈ upS s a d ↔ (x ∈ s ∧ x ∉ d) ∨ x ∈ a := by
 unfold upS
 rw [dd_mem, sortI_mem, List.mem_append]
 unfold keepTo
 rw [List.take_length]
 simp
theorem up_lt {s a d : List Int} : (upS s a d).Pairwise (· < ·) := dd_strictI sortI_sorted
structure MgP (s part : List Int) (k j : Nat) : Prop where
 kk : k ≤ part.length
 jj : j ≤ s.length
 dd : ∀ i : Nat, i < k → nth part i ∈ s
 bb : ∀ i m : Nat, i < j → k ≤ m → m < part.length → nth s i < nth part m ∨ (∃ u : Nat, u < k ∧ nth s i = nth part u)
structure MgQ (s part : List Int) (k j : Nat) : Prop where
 kk : k ≤ part.length
 jj : j ≤ s.length
 dd : ∀ i : Nat, i < k → nth part i ∈ s
 bb : ∀ i : Nat, i < j → k < part.length → nth s i < nth part k
theorem pw_nth {l : List Int} (h : l.Pairwise (· < ·)) {i j : Nat} (hij : i < j) (hj : j < l.length) : nth l i < nth l j := by
 rw [nth_eq hj, nth_eq (by omega)]
 exact List.pairwise_iff_getElem.1 h i j (by omega) hj hij
theorem mg_0 {s part : List Int} : MgP s part 0 0 := ⟨by omega, by omega, fun i hi => by omega, fun i m hi => by omega⟩
theorem mg_q {s part : List Int} {k j : Nat} (hp : part.Pairwise (· < ·)) (h : MgP s part k j) : MgQ s part k j := ⟨h.kk, h.jj, h.dd, fun i hi hk => by
 rcases h.bb i k hi (Nat.le_refl _) hk with h1 | ⟨u, h1, h2⟩
 ·exact h1
 ·rw [h2]; exact pw_nth hp h1 hk⟩
theorem mg_j {s part : List Int} {k j : Nat} (h : MgQ s part k j) (hj : j < s.length) (hlt : nth s j < nth part k) : MgQ s part k (j + 1) := ⟨h.kk, by omega, h.dd, fun i hi hk => by
 by_cases hij : i = j
 ·subst hij; exact hlt
 ·exact h.bb i (by omega) hk⟩
theorem mg_s {s part : List Int} {k j : Nat} (hs : s.Pairwise (· < ·)) (hp : part.Pairwise (· < ·)) (h : MgQ s part k j) (hk : k < part.length) (hj : j < s.length ∧ nth s j = nth part k) : MgP s part (k + 1) j := ⟨by omega, h.jj, fun i hi => by
 by_cases hik : i = k
 ·subst hik; rw [← hj.2]; exact nth_mem (by omega) (by omega)
 ·exact h.dd i (by omega), fun i m hi hm hml => by
 have h1 := h.bb i hi hk
 have h2 := pw_nth hp (i := k) (j := m) (by omega) hml
 exact .inl (by omega)⟩
theorem mg_no {s part : List Int} {k j : Nat} (hs : s.Pairwise (· < ·)) (h : MgQ s part k j) (hk : k < part.length) (hge : j < s.length → nth part k ≤ nth s j) (hne : ∀ hj : j < s.length, nth s j ≠ nth part k) : ¬ SubP part s := fun hh => by
 have h1 := hh k hk
 obtain ⟨i, hi, he⟩ := List.getElem_of_mem h1
 rw [← nth_eq hi] at he
 by_cases hij : i < j
 ·have := h.bb i hij hk; omega
 ·have h2 := hge (by omega)
  have h3 := hne (by omega)
  by_cases hij2 : i = j
  ·subst hij2; exact h3 he
  ·have := pw_nth hs (i := j) (j := i) (by omega) hi; omega
theorem mg_yes {s part : List Int} {k j : Nat} (hk : k = part.length) (h : MgP s part k j) : SubP part s := fun i hi => h.dd i (by omega)
end Go.Eng
end

section
namespace Go.Eng
open Go.RowKit (Below)
section
variable {P : Program} {B : Nat} {o : Oper} {e : Env} {M : Mem}
theorem OpSem.buildS (h : Nat) {t k len : Nat} {ps : Array (Nat × Operand)} {l : List (Nat × S)} {zs : List Value} {ss : List S} {rows : List (List D)} (ho : o.op = .buildSlice t len ps) (hp : partsS e ps.toList = some l) (hk : esz P t = some k)
  (hz : zcells P (P.elem t) = some zs) (h1 : zs.all Value.oneCell' = true) (hzk : zs.length = k) (hk0 : 0 < k) (hlen : len * k ≤ 2 ^ 24)
  (hf : fillS (fun i => some (i * k, k)) ((List.replicate len zs).flatten.map fun z => .d (.v z)) l = some ss) (hr : rowsOf k len ss = some rows) : OpSem P B o e M (.o h) (some (h, .own k (P.elem t) rows)) := by
 intro O H a w hB hs hm K hK
 obtain ⟨q1, q2⟩ := partsS_rep (O := O) (H := H) (w := w) (a := a) ps.toList l hp (fun p hp s hs' => hs p.2 (by simp only [ho, Op.operands]; simpa using ⟨p.1, by simpa using hp⟩) s hs')
 have hzz : ∀ (n : Nat), (List.replicate n zs).flatten.all Value.oneCell' = true := by
  intro n
  rw [List.all_eq_true] at h1 ⊢
  intro x hx
  rw [List.mem_flatten] at hx
  obtain ⟨r, hr, hx⟩ := hx
  rw [List.mem_replicate] at hr
  exact h1 x (hr.2 ▸ hx)
 have hz' := RepC.zero (O := O) (H := H) (w := w) ((List.replicate len zs).flatten) (hzz len)
 obtain ⟨cs', hcs, hrep⟩ := fill_rep (places := fun i => some (i * k, k)) _ l _ _ ss q1 q2 hz' hf
 obtain ⟨z, hz1, hz2⟩ := run_zero hz w
 have harr : (Array.range (len * k)).map (fun i => zs.toArray[i % zs.toArray.size]!) = ((List.replicate len zs).flatten).toArray := by
  apply Array.ext'
  simp only [Array.toList_map, Array.toList_range]
  clear hf hz' hcs hrep hlen ho hr
  induction len with
  | zero => simp
  | succ n ih =>
   rw [List.replicate_succ, List.flatten_cons]
   rw [Nat.succ_mul, Nat.add_comm, List.range_add, List.map_append, List.map_map]
   congr 1
   ·apply List.ext_getElem?
    intro i
    by_cases hi : i < k
    ·simp [hi, Nat.mod_eq_of_lt (by omega : i < zs.length), hzk, getElem!_def, List.getElem?_eq_getElem (by omega : i < zs.length), Nat.mod_eq_of_lt hi]
    ·rw [List.getElem?_eq_none (by simp; omega), List.getElem?_eq_none (by omega)]
   ·rw [← ih]
    apply List.map_congr_left
    intro i _
    simp [hzk]
 have hfill : Instr.fill (fun i => some (i * k, k)) ((Array.range (len * k)).map (fun i => zs.toArray[i % zs.toArray.size]!)) (ps.toList.map fun p => (p.1, a.eval p.2)) = some cs' := by rw [harr]; exact hcs
 have hfill' : Instr.fill (fun i => some (i * k, k)) ((Array.range (len * k)).map (fun i => z.cells[i % z.cells.size]!)) (ps.toList.map fun p => (p.1, a.eval p.2)) = some cs' := by rw [hz2]; exact hfill
 have hu := (esz_spec hk).1
 have hrun : (execOp a.eval o).run P w = .ok (.value (.slice (some ⟨w.heap.size, 0, none⟩) len len)) (w.alloc (.cells cs' (P.elem t))) := by
  by_cases hl0 : len * k = 0
  ·have hl : len = 0 := by rcases Nat.mul_eq_zero.1 hl0 with h | h; exact h; omega
   subst hl
   simp only [Nat.zero_mul, Array.range_zero', Array.map_empty] at hfill
   simp [execOp, ho, Instr.buildSlice, run_underlying hu, run_sizeElem hk, hl0, newRow, hfill, Array.range_zero']
  ·skip
   have h24 : ¬ 16777216 < len * k := by simpa using hlen
   simp [execOp, ho, Instr.buildSlice, run_underlying hu, run_sizeElem hk, hl0, hz1, newRow, hfill', h24]
 have hsz0 : cs'.size = len * k := by
  have : cs'.size = ((List.replicate len zs).flatten.map fun z => S.d (.v z)).length := by
   have hfs : ∀ (l : List (Nat × S)) (c o : List S), fillS (fun i => some (i * k, k)) c l = some o → o.length = c.length := by
    intro l
    induction l with
    | nil => intro c o h; simp only [fillS, Option.some.injEq] at h; rw [h]
    | cons p l ih =>
     intro c o h
     obtain ⟨i, s⟩ := p
     simp only [fillS] at h
     split at h
     ·split at h
      ·rename_i hq _ hcond
       simp only [Option.some.injEq, Prod.mk.injEq] at hq
       obtain ⟨rfl, rfl⟩ := hq
       rw [ih _ _ h]; simp; omega
      ·cases h
     ·cases h
   rw [hrep.1]; exact hfs _ _ _ hf
  rw [this]; simp [hzk]
 have hss : len * k ≤ ss.length := by rw [← hrep.1, hsz0]; exact Nat.le_refl _
 obtain ⟨r1, r2, r3⟩ := rowsOf_spec k len ss rows hss hr
 have hcell : ∀ (i : Nat) (r : List D) (j : Nat) (d : D), rows[i]? = some r → r[j]? = some d → ∃ y, cs'[i * k + j]? = some y ∧ RepD O w y d ∧ y.oneCell' = true := by
  intro i r j d hi hj
  obtain ⟨y, hy, hr', h1⟩ := hrep.2 _ _ (r3 i r j d hi hj)
  cases hr' with
  | d _ _ hd => exact ⟨y, hy, hd, h1⟩
 have hkeep := Keep.alloc (O := O) (H := H) (w := w) (.cells cs' (P.elem t)) h (.slice (some ⟨w.heap.size, 0, none⟩) len len)
 unfold Oper.wp
 rw [hrun]
 obtain ⟨H', hH'⟩ : ∃ H' : Nat → Value, H' = fun m => if m = h then (.slice (some ⟨w.heap.size, 0, none⟩) len len : Value) else H m := ⟨_, rfl⟩
 have hH : H' h = .slice (some ⟨w.heap.size, 0, none⟩) len len := by rw [hH']; simp
 rw [← hH'] at hkeep
 have ho' := RepS.o (O := fun b => if b = w.heap.size then h + 1 else O b) (w := w.alloc (.cells cs' (P.elem t))) (H := H') h (by rw [hH]; rfl)
 rw [hH] at ho'
 refine hK _ _ _ _ hkeep ((Below.refl _ _).alloc (Nat.le_refl _) _) ho' (fun h' m he => ?_)
 simp only [Option.some.injEq, Prod.mk.injEq] at he
 obtain ⟨rfl, rfl⟩ := he
 refine .inr ⟨w.heap.size, len, cs', by rw [hH, r1], hB, by simp, heap_new w _, by omega, by simp only [maxLen]; have := Nat.le_mul_of_pos_right len hk0; omega, hsz0, r2, fun i r j d hi hj => ?_⟩
 obtain ⟨y, hy, hr', h1⟩ := hcell i r j d hi hj
 exact ⟨y, hy, hr'.mono hkeep.keeps, h1⟩
end
end Go.Eng
end

section
namespace Go.Eng
section
variable {t : Tsk} {s l : List Int}
end
end Go.Eng
end

section
namespace Go.Eng
def gmT (v f : List Int) : Nat → Int
 | 0 => 0
 | k + 1 => max (gmT v f k) (nth v (nth f k))
def gmF (v f : List Int) : Int := gmT v f f.length
def suT (v f : List Int) : Nat → Int
 | 0 => 0
 | k + 1 => plusI (suT v f k) (nth v (nth f k))
def suF (v f : List Int) : Int := suT v f f.length
abbrev Cmb := List Int → List Int → Int
def vlA (w : Int) (add : List Int) (x : List Int × Bool) : Nat → List Int × Bool
 | 0 => x
 | j + 1 => if w < nth (vlA w add x j).1 (nth add j) then ((vlA w add x j).1.set (nth add j).toNat w, true) else vlA w add x j
def vlV (t : Tsk) (cs : List Int) (cmb : Cmb) (v : List Int) (i : Nat) : Int := plusI (cmb v (nth t.ops i).pre) (nth cs i)
def vlO (t : Tsk) (cs : List Int) (cmb : Cmb) (x : List Int × Bool) (i : Nat) : List Int × Bool := vlA (vlV t cs cmb x.1 i) (nth t.ops i).add x (nth t.ops i).add.length
def vlP (t : Tsk) (cs : List Int) (cmb : Cmb) (v : List Int) : Nat → List Int × Bool
 | 0 => (v, false)
 | i + 1 => vlO t cs cmb (vlP t cs cmb v i) i
inductive VlR (t : Tsk) (cs : List Int) (cmb : Cmb) : List Int → List Int → Prop
 | done {v : List Int} : (vlP t cs cmb v t.ops.length).2 = false → VlR t cs cmb v (vlP t cs cmb v t.ops.length).1
 | step {v w : List Int} : (vlP t cs cmb v t.ops.length).2 = true → VlR t cs cmb (vlP t cs cmb v t.ops.length).1 w → VlR t cs cmb v w
def vlI (n : Nat) (s : List Int) : Nat → List Int
 | 0 => List.replicate n 1000000000
 | k + 1 => (vlI n s k).set (nth s k).toNat 0
def vl0 (t : Tsk) (s : List Int) : List Int := vlI t.facts.toNat s s.length
structure VlP (n : Int) (v : List Int) : Prop where
 l : (v.length : Int) = n
 r : ∀ p : Int, 0 ≤ p → p < n → 0 ≤ nth v p ∧ nth v p ≤ 1000000000
def CmbP (n : Int) (cmb : Cmb) : Prop := ∀ v f, VlP n v → SetP n f → 0 ≤ cmb v f ∧ cmb v f ≤ 1000000000
structure CsV (t : Tsk) (cs : List Int) : Prop where
 l : cs.length = t.ops.length
 r : ∀ i : Nat, i < t.ops.length → 0 ≤ nth cs i ∧ nth cs i ≤ 100
theorem nth_sI {l : List Int} {p q v : Int} (h0 : 0 ≤ p) (h1 : p < l.length) (h2 : 0 ≤ q) (h3 : q < l.length) : nth (l.set p.toNat v) q = if q = p then v else nth l q := by
 rw [nth_set h2 h3]
 by_cases h : q = p
 ·rw [if_pos (by omega), if_pos h]
 ·rw [if_neg (by omega), if_neg h]
section
variable {n : Int} {v f : List Int}
theorem VlP.set (h : VlP n v) {p w : Int} (h0 : 0 ≤ p) (h1 : p < n) (hw : 0 ≤ w ∧ w ≤ 1000000000) : VlP n (v.set p.toNat w) := by
 have hl := h.l
 refine ⟨by rw [List.length_set]; exact hl, fun q q0 q1 => ?_⟩
 rw [nth_sI h0 (by omega) q0 (by omega)]
 split
 ·exact hw
 ·exact h.r q q0 q1
theorem gmT_in (h : VlP n v) (hf : ∀ k : Nat, k < f.length → 0 ≤ nth f k ∧ nth f k < n) : ∀ {k : Nat}, k ≤ f.length → 0 ≤ gmT v f k ∧ gmT v f k ≤ 1000000000
 | 0, _ => by simp [gmT]
 | k + 1, hk => by
  have ih := gmT_in h hf (k := k) (by omega)
  have hr := h.r _ (hf k (by omega)).1 (hf k (by omega)).2
  simp only [gmT]; omega
theorem suT_in (h : VlP n v) (hf : ∀ k : Nat, k < f.length → 0 ≤ nth f k ∧ nth f k < n) : ∀ {k : Nat}, k ≤ f.length → 0 ≤ suT v f k ∧ suT v f k ≤ 1000000000
 | 0, _ => by simp [suT]
 | k + 1, hk => by
  have ih := suT_in h hf (k := k) (by omega)
  have hr := h.r _ (hf k (by omega)).1 (hf k (by omega)).2
  exact plusI_in ih hr
theorem gm_cmb : CmbP n gmF := fun v f hv hf => gmT_in hv (set_rng hf) (Nat.le_refl _)
theorem su_cmb : CmbP n suF := fun v f hv hf => suT_in hv (set_rng hf) (Nat.le_refl _)
theorem gmT_ge : ∀ {k i : Nat}, i < k → nth v (nth f i) ≤ gmT v f k
 | 0, i, h => by omega
 | k + 1, i, h => by
  simp only [gmT]
  by_cases hik : i = k
  ·subst hik; omega
  ·have := gmT_ge (k := k) (i := i) (by omega); omega
theorem gm_ge {p : Int} (h : p ∈ f) : nth v p ≤ gmF v f := by
 obtain ⟨i, hi, rfl⟩ := List.getElem_of_mem h
 have := gmT_ge (v := v) (f := f) hi
 rw [nth_eq hi] at this; exact this
theorem gmT_le {b : Int} (h0 : 0 ≤ b) (h : ∀ i : Nat, i < f.length → nth v (nth f i) ≤ b) : ∀ {k : Nat}, k ≤ f.length → gmT v f k ≤ b
 | 0, _ => by simpa [gmT] using h0
 | k + 1, hk => by
  have ih := gmT_le h0 h (k := k) (by omega)
  have := h k (by omega)
  simp only [gmT]; omega
theorem gm_le {b : Int} (h0 : 0 ≤ b) (h : ∀ p, p ∈ f → nth v p ≤ b) : gmF v f ≤ b := gmT_le h0 (fun i hi => h _ (nth_mem (by omega) (by omega))) (Nat.le_refl _)
end
section
variable {t : Tsk} {cs : List Int} {cmb : Cmb} {s v w : List Int}
theorem vlV_in (hV : TskV t) (hc : CsV t cs) (hm : CmbP t.facts cmb) (h : VlP t.facts v) {i : Nat} (hi : i < t.ops.length) : 0 ≤ vlV t cs cmb v i ∧ vlV t cs cmb v i ≤ 1000000000 := by
 have h1 := hm v _ h (hV.op i hi).1.1
 have h2 := hc.r i hi
 exact plusI_in h1 (by omega)
theorem vlA_keep {I : List Int → Prop} {w : Int} {add : List Int} (h : ∀ y (p : Int), I y → p ∈ add → w < nth y p → I (y.set p.toNat w)) {x : List Int × Bool} (hx : I x.1) : ∀ {j : Nat}, j ≤ add.length → I (vlA w add x j).1
 | 0, _ => hx
 | j + 1, hj => by
  have ih := vlA_keep h hx (j := j) (by omega)
  simp only [vlA]
  split
  ·rename_i hlt
   exact h _ _ ih (nth_mem (by omega) (by omega)) hlt
  ·exact ih
theorem vlP_keep {I : List Int → Prop} (h : ∀ x y (i : Nat) (p : Int), I x → I y → i < t.ops.length → p ∈ (nth t.ops i).add → vlV t cs cmb x i < nth y p → I (y.set p.toNat (vlV t cs cmb x i))) (hv : I v) : ∀ {i : Nat}, i ≤ t.ops.length → I (vlP t cs cmb v i).1
 | 0, _ => hv
 | i + 1, hi => by
  have ih := vlP_keep h hv (i := i) (by omega)
  exact vlA_keep (I := I) (fun y p hy hp hlt => h _ y i p ih hy (by omega) hp hlt) ih (Nat.le_refl _)
theorem VlR.keep {I : List Int → Prop} (h : ∀ x y (i : Nat) (p : Int), I x → I y → i < t.ops.length → p ∈ (nth t.ops i).add → vlV t cs cmb x i < nth y p → I (y.set p.toNat (vlV t cs cmb x i))) (hr : VlR t cs cmb v w) (hv : I v) : I w := by
 induction hr with
 | done _ => exact vlP_keep h hv (Nat.le_refl _)
 | step _ _ ih => exact ih (vlP_keep h hv (Nat.le_refl _))
theorem vlP_v (hV : TskV t) (hc : CsV t cs) (hm : CmbP t.facts cmb) (x y : List Int) (i : Nat) (p : Int) (hx : VlP t.facts x) (hy : VlP t.facts y) (hi : i < t.ops.length) (hp : p ∈ (nth t.ops i).add) : VlP t.facts (y.set p.toNat (vlV t cs cmb x i)) := by
 have hr := setP_mem (hV.op i hi).1.2.1 hp
 exact hy.set hr.1 hr.2 (vlV_in hV hc hm hx hi)
theorem VlR.vv (hV : TskV t) (hc : CsV t cs) (hm : CmbP t.facts cmb) (hr : VlR t cs cmb v w) (hv : VlP t.facts v) : VlP t.facts w := hr.keep (fun x y i p hx hy hi hp _ => vlP_v hV hc hm x y i p hx hy hi hp) hv
theorem vlA_flag {w : Int} {add : List Int} {x : List Int × Bool} : ∀ {j : Nat}, (vlA w add x j).2 = false → vlA w add x j = x ∧ ∀ k : Nat, k < j → ¬ w < nth x.1 (nth add k)
 | 0, _ => ⟨rfl, fun k hk => by omega⟩
 | j + 1, h => by
  simp only [vlA] at h ⊢
  split at h
  ·simp at h
  ·rename_i hn
   obtain ⟨h1, h2⟩ := vlA_flag h
   rw [if_neg hn]
   refine ⟨h1, fun k hk => ?_⟩
   by_cases hkj : k = j
   ·subst hkj; rw [h1] at hn; exact hn
   ·exact h2 k (by omega)
theorem vlP_flag : ∀ {i : Nat}, (vlP t cs cmb v i).2 = false → vlP t cs cmb v i = (v, false) ∧ ∀ k : Nat, k < i → ∀ p, p ∈ (nth t.ops k).add → nth v p ≤ vlV t cs cmb v k
 | 0, _ => ⟨rfl, fun k hk => by omega⟩
 | i + 1, h => by
  have h : (vlO t cs cmb (vlP t cs cmb v i) i).2 = false := h
  unfold vlO at h
  obtain ⟨h1, h2⟩ := vlA_flag h
  have h3 : (vlP t cs cmb v i).2 = false := by rw [← h1]; exact h
  obtain ⟨h4, h5⟩ := vlP_flag h3
  refine ⟨h1.trans h4, fun k hk p hp => ?_⟩
  by_cases hki : k = i
  ·subst hki
   obtain ⟨j, hj, rfl⟩ := List.getElem_of_mem hp
   have := h2 j hj
   rw [h4, nth_eq hj] at this
   exact Int.not_lt.1 this
  ·exact h5 k (by omega) p hp
theorem VlR.fix (hr : VlR t cs cmb v w) : ∀ i : Nat, i < t.ops.length → ∀ p, p ∈ (nth t.ops i).add → nth w p ≤ vlV t cs cmb w i := by
 induction hr with
 | done h =>
  obtain ⟨h1, h2⟩ := vlP_flag h
  rw [h1]; exact h2
 | step _ _ ih => exact ih
theorem smL_setI {y : List Int} {p w : Int} (h0 : 0 ≤ p) (h1 : p < y.length) : (y.set p.toNat w).sum = y.sum + (w - nth y p) := by
 obtain ⟨k, rfl⟩ := Int.eq_ofNat_of_zero_le h0
 have hk : k < y.length := by omega
 rw [Int.toNat_natCast, nth_eq hk]
 induction y generalizing k with
 | nil => simp at hk
 | cons a y ih =>
  cases k with
  | zero => simp; omega
  | succ k =>
   have := ih (k := k) (by omega) (by simp at hk; omega) (by simpa using hk)
   simp only [List.set_cons_succ, List.sum_cons, List.getElem_cons_succ]
   rw [this]; omega
theorem vlA_dec {n : Int} {w : Int} {add : List Int} (hadd : ∀ p, p ∈ add → 0 ≤ p ∧ p < n) (hw : 0 ≤ w ∧ w ≤ 1000000000) {x : List Int × Bool} (hx : VlP n x.1) : ∀ {j : Nat}, j ≤ add.length → VlP n (vlA w add x j).1 ∧ (vlA w add x j = x ∨ ((vlA w add x j).2 = true ∧ (vlA w add x j).1.sum < x.1.sum))
 | 0, _ => ⟨hx, .inl rfl⟩
 | j + 1, hj => by
  obtain ⟨h1, h2⟩ := vlA_dec hadd hw hx (j := j) (by omega)
  simp only [vlA]
  split
  ·rename_i hlt
   have hp := hadd (nth add j) (nth_mem (by omega) (by omega))
   have hl := h1.l
   refine ⟨h1.set hp.1 hp.2 hw, .inr ⟨rfl, ?_⟩⟩
   show ((vlA w add x j).1.set _ w).sum < _
   rw [smL_setI hp.1 (by omega)]
   rcases h2 with h2 | h2
   ·rw [h2] at hlt ⊢; omega
   ·omega
  ·exact ⟨h1, h2⟩
theorem vlP_dec (hV : TskV t) (hc : CsV t cs) (hm : CmbP t.facts cmb) (hv : VlP t.facts v) : ∀ {i : Nat}, i ≤ t.ops.length → VlP t.facts (vlP t cs cmb v i).1 ∧ (vlP t cs cmb v i = (v, false) ∨ ((vlP t cs cmb v i).2 = true ∧ (vlP t cs cmb v i).1.sum < v.sum))
 | 0, _ => ⟨hv, .inl rfl⟩
 | i + 1, hi => by
  obtain ⟨h1, h2⟩ := vlP_dec hV hc hm hv (i := i) (by omega)
  obtain ⟨h3, h4⟩ := vlA_dec (add := (nth t.ops i).add) (fun p hp => setP_mem (hV.op i (by omega)).1.2.1 hp) (vlV_in hV hc hm h1 (i := i) (by omega)) h1 (Nat.le_refl _)
  refine ⟨h3, ?_⟩
  show vlO t cs cmb (vlP t cs cmb v i) i = _ ∨ ((vlO t cs cmb (vlP t cs cmb v i) i).2 = true ∧ (vlO t cs cmb (vlP t cs cmb v i) i).1.sum < _)
  unfold vlO
  rcases h4 with h4 | ⟨h4, h5⟩
  ·rw [h4]; exact h2
  ·refine .inr ⟨h4, Int.lt_of_lt_of_le h5 ?_⟩
   rcases h2 with h2 | h2
   ·rw [h2]; exact Int.le_refl _
   ·omega
theorem VlP.sum (h : VlP t.facts v) : 0 ≤ v.sum := by
 have : ∀ l : List Int, (∀ x, x ∈ l → 0 ≤ x) → 0 ≤ l.sum := fun l => by
  induction l with
  | nil => simp
  | cons a l ih =>
   intro hl
   have h1 := hl a (by simp)
   have h2 := ih fun x hx => hl x (by simp [hx])
   simp only [List.sum_cons]; omega
 refine this v fun x hx => ?_
 obtain ⟨i, hi, rfl⟩ := List.getElem_of_mem hx
 have := (h.r i (by omega) (by have := h.l; omega)).1
 rw [nth_eq hi] at this; exact this
def vl_mu (x : List Int × Bool) : Nat := 2 * x.1.sum.toNat + (if x.2 = true then 1 else 0)
theorem vl_lt (hV : TskV t) (hc : CsV t cs) (hm : CmbP t.facts cmb) {x : List Int × Bool} (hv : VlP t.facts x.1) (hx : x.2 = true) : vl_mu (vlP t cs cmb x.1 t.ops.length) < vl_mu x := by
 obtain ⟨h1, h2⟩ := vlP_dec hV hc hm hv (Nat.le_refl _)
 have h0 := h1.sum
 unfold vl_mu
 rw [if_pos hx]
 rcases h2 with h2 | ⟨h2, h3⟩
 ·rw [h2]; simp
 ·rw [if_pos h2]; omega
theorem VlR.inv (h : VlR t cs cmb v w) : ((vlP t cs cmb v t.ops.length).2 = true → VlR t cs cmb (vlP t cs cmb v t.ops.length).1 w) ∧ ((vlP t cs cmb v t.ops.length).2 = false → (vlP t cs cmb v t.ops.length).1 = w) := by
 cases h with
 | done h => exact ⟨fun h2 => (by rw [h] at h2; cases h2), fun _ => rfl⟩
 | step h hr => exact ⟨fun _ => hr, fun h2 => (by rw [h] at h2; cases h2)⟩
theorem vl_ends (hV : TskV t) (hc : CsV t cs) (hm : CmbP t.facts cmb) : ∀ (d : Nat) {v : List Int}, v.sum.toNat < d → VlP t.facts v → ∃ w, VlR t cs cmb v w
 | 0, _, hd, _ => by omega
 | d + 1, v, hd, hv => by
  obtain ⟨h1, h2⟩ := vlP_dec hV hc hm hv (Nat.le_refl _)
  cases hb : (vlP t cs cmb v t.ops.length).2 with
  | false => exact ⟨_, .done hb⟩
  | true =>
   rcases h2 with h2 | ⟨_, h3⟩
   ·rw [h2] at hb; cases hb
   ·obtain ⟨w, hw⟩ := vl_ends hV hc hm d (v := (vlP t cs cmb v t.ops.length).1) (by have := h1.sum; omega) h1
    exact ⟨w, .step hb hw⟩
theorem vlI_v (hf : 0 ≤ t.facts) (hs : ∀ p, p ∈ s → 0 ≤ p ∧ p < t.facts) : ∀ {k : Nat}, k ≤ s.length → VlP t.facts (vlI t.facts.toNat s k) ∧ ∀ p : Int, 0 ≤ p → p < t.facts → nth (vlI t.facts.toNat s k) p = if p ∈ s.take k then 0 else 1000000000
 | 0, _ => by
  have hl : ((List.replicate t.facts.toNat (1000000000 : Int)).length : Int) = t.facts := by simp; omega
  have hr : ∀ p : Int, 0 ≤ p → p < t.facts → nth (List.replicate t.facts.toNat (1000000000 : Int)) p = 1000000000 := fun p p0 p1 => by
   obtain ⟨i, rfl⟩ := Int.eq_ofNat_of_zero_le p0
   rw [nth_eq (by simp; omega), List.getElem_replicate]
  exact ⟨⟨hl, fun p p0 p1 => by show 0 ≤ nth (List.replicate _ _) p ∧ nth (List.replicate _ _) p ≤ _; rw [hr p p0 p1]; omega⟩, fun p p0 p1 => by simpa [vlI] using hr p p0 p1⟩
 | k + 1, hk => by
  obtain ⟨h1, h2⟩ := vlI_v hf hs (k := k) (by omega)
  have hp := hs (nth s k) (nth_mem (by omega) (by omega))
  have hl := h1.l
  refine ⟨h1.set hp.1 hp.2 (by omega), fun p p0 p1 => ?_⟩
  show nth ((vlI t.facts.toNat s k).set (nth s k).toNat 0) p = _
  rw [nth_sI hp.1 (by omega) p0 (by omega), h2 p p0 p1, tk_s (by omega)]
  by_cases hpk : p = nth s k
  ·rw [if_pos hpk, if_pos (by rw [hpk]; simp)]
  ·rw [if_neg hpk]
   by_cases hm : p ∈ s.take k
   ·rw [if_pos hm, if_pos (by simp [hm])]
   ·rw [if_neg hm, if_neg (by simp [hm, hpk])]
theorem vl0_at (hf : 0 ≤ t.facts) (hs : ∀ p, p ∈ s → 0 ≤ p ∧ p < t.facts) {p : Int} (p0 : 0 ≤ p) (p1 : p < t.facts) : nth (vl0 t s) p = if p ∈ s then 0 else 1000000000 := by
 unfold vl0
 rw [(vlI_v hf hs (Nat.le_refl _)).2 p p0 p1, List.take_length]
theorem vl0_v (hf : 0 ≤ t.facts) (hs : ∀ p, p ∈ s → 0 ≤ p ∧ p < t.facts) : VlP t.facts (vl0 t s) := (vlI_v hf hs (Nat.le_refl _)).1
noncomputable def vlW (t : Tsk) (s cs : List Int) (cmb : Cmb) : List Int := open Classical in if h : ∃ w, VlR t cs cmb (vl0 t s) w then h.choose else []
theorem vlW_ok (hV : TskV t) (hc : CsV t cs) (hm : CmbP t.facts cmb) (hs : ∀ p, p ∈ s → 0 ≤ p ∧ p < t.facts) : VlR t cs cmb (vl0 t s) (vlW t s cs cmb) := by
 have h : ∃ w, VlR t cs cmb (vl0 t s) w := vl_ends hV hc hm _ (Nat.lt_succ_self _) (vl0_v hV.facts.1 hs)
 unfold vlW
 rw [dif_pos h]
 exact h.choose_spec
end
section
variable {t : Tsk} {s cs v w : List Int}
def Fea (t : Tsk) (s cs : List Int) (f : Int → Int) : Prop := (∀ p, p ∈ s → f p ≤ 0) ∧ (∀ p : Int, 0 ≤ p → p < t.facts → f p ≤ 1000000000) ∧
 ∀ i : Nat, i < t.ops.length → ∀ p, p ∈ (nth t.ops i).add → ∀ b : Int, 0 ≤ b → b ≤ 1000000000 → (∀ q, q ∈ (nth t.ops i).pre → f q ≤ b) → f p ≤ plusI b (nth cs i)
theorem fea_le (hV : TskV t) (hc : CsV t cs) (hs : ∀ p, p ∈ s → 0 ≤ p ∧ p < t.facts) {f : Int → Int} (hf : Fea t s cs f) : ∀ p : Int, 0 ≤ p → p < t.facts → f p ≤ nth (vlW t s cs gmF) p := by
 have key := (vlW_ok hV hc gm_cmb hs).keep (I := fun y => VlP t.facts y ∧ ∀ p : Int, 0 ≤ p → p < t.facts → f p ≤ nth y p) (fun x y i p hx hy hi hp hlt => ?_) ⟨vl0_v hV.facts.1 hs, fun p p0 p1 => ?_⟩
 ·exact key.2
 ·have hr := setP_mem (hV.op i hi).1.2.1 hp
  refine ⟨vlP_v hV hc gm_cmb x y i p hx.1 hy.1 hi hp, fun q q0 q1 => ?_⟩
  have hl := hy.1.l
  rw [nth_sI hr.1 (by omega) q0 (by omega)]
  split
  ·rename_i hqp
   subst hqp
   have hg := gm_cmb x _ hx.1 (hV.op i hi).1.1
   exact hf.2.2 i hi q hp _ hg.1 hg.2 fun r hrm => by
    have hrr := setP_mem (hV.op i hi).1.1 hrm
    exact Int.le_trans (hx.2 r hrr.1 hrr.2) (gm_ge hrm)
  ·exact hy.2 q q0 q1
 ·rw [vl0_at hV.facts.1 hs p0 p1]
  split
  ·rename_i hm; exact hf.1 p hm
  ·exact hf.2.1 p p0 p1
structure HmP (t : Tsk) (s cs v : List Int) : Prop where
 vp : VlP t.facts v
 s : ∀ p, p ∈ s → nth v p = 0
 fix : ∀ i : Nat, i < t.ops.length → ∀ p, p ∈ (nth t.ops i).add → nth v p ≤ plusI (gmF v (nth t.ops i).pre) (nth cs i)
theorem hm_p (hV : TskV t) (hc : CsV t cs) (hs : ∀ p, p ∈ s → 0 ≤ p ∧ p < t.facts) : HmP t s cs (vlW t s cs gmF) := by
 have hr := vlW_ok hV hc gm_cmb hs
 have hv := hr.vv hV hc gm_cmb (vl0_v hV.facts.1 hs)
 refine ⟨hv, fun p hp => ?_, hr.fix⟩
 have hps := hs p hp
 have key := hr.keep (I := fun y => VlP t.facts y ∧ nth y p = 0) (fun x y i q hx hy hi hq hlt => by
  have hqr := setP_mem (hV.op i hi).1.2.1 hq
  have hl := hy.1.l
  refine ⟨vlP_v hV hc gm_cmb x y i q hx.1 hy.1 hi hq, ?_⟩
  rw [nth_sI hqr.1 (by omega) hps.1 (by omega)]
  split
  ·rename_i hpq
   subst hpq
   have := (vlV_in hV hc gm_cmb hx.1 hi).1
   rw [hy.2] at hlt; omega
  ·exact hy.2) ⟨vl0_v hV.facts.1 hs, by rw [vl0_at hV.facts.1 hs hps.1 hps.2, if_pos hp]⟩
 exact key.2
end
end Go.Eng
end

section
namespace Go.Eng
def hdT (n : Int) (u f : List Int) : Nat → Int
 | 0 => n
 | k + 1 => if hdT n u f k = n ∨ nth u (hdT n u f k) < nth u (nth f k) then nth f k else hdT n u f k
def hdF (n : Int) (u f : List Int) : Int := hdT n u f f.length
theorem hdT_spec {n : Int} {u f : List Int} (hf : ∀ k : Nat, k < f.length → 0 ≤ nth f k ∧ nth f k < n) : ∀ {k : Nat}, k ≤ f.length → (k = 0 ∧ hdT n u f k = n) ∨ (0 < k ∧ hdT n u f k ∈ f ∧ ∀ i : Nat, i < k → nth u (nth f i) ≤ nth u (hdT n u f k))
 | 0, _ => .inl ⟨rfl, rfl⟩
 | k + 1, hk => by
  have ih := hdT_spec (u := u) hf (k := k) (by omega)
  have hfk := hf k (by omega)
  have hmk : nth f k ∈ f := nth_mem (by omega) (by omega)
  refine .inr ⟨by omega, ?_⟩
  simp only [hdT]
  rcases ih with ⟨h1, h2⟩ | ⟨h1, h2, h3⟩
  ·rw [if_pos (.inl h2)]
   refine ⟨hmk, fun i hi => ?_⟩
   obtain rfl : i = k := by omega
   exact Int.le_refl _
  ·have hne : hdT n u f k ≠ n := fun e => by
    obtain ⟨i, hi, he⟩ := List.getElem_of_mem h2
    have := hf i hi
    rw [nth_eq hi, he] at this; omega
   by_cases hlt : nth u (hdT n u f k) < nth u (nth f k)
   ·rw [if_pos (.inr hlt)]
    refine ⟨hmk, fun i hi => ?_⟩
    by_cases hik : i = k
    ·subst hik; exact Int.le_refl _
    ·have := h3 i (by omega); omega
   ·rw [if_neg (fun h => h.elim hne hlt)]
    refine ⟨h2, fun i hi => ?_⟩
    by_cases hik : i = k
    ·subst hik; omega
    ·exact h3 i (by omega)
theorem hdT_in {n : Int} {u f : List Int} (hf : ∀ k : Nat, k < f.length → 0 ≤ nth f k ∧ nth f k < n) (hn : 0 ≤ n) {k : Nat} (hk : k ≤ f.length) : 0 ≤ hdT n u f k ∧ hdT n u f k ≤ n := by
 rcases hdT_spec (u := u) hf hk with ⟨_, h⟩ | ⟨_, h, _⟩
 ·rw [h]; omega
 ·obtain ⟨i, hi, he⟩ := List.getElem_of_mem h
  have := hf i hi
  rw [nth_eq hi, he] at this; omega
theorem hd_spec {n : Int} {u f : List Int} (hf : SetP n f) : (f = [] ∧ hdF n u f = n) ∨ (hdF n u f ∈ f ∧ ∀ q, q ∈ f → nth u q ≤ nth u (hdF n u f)) := by
 rcases hdT_spec (u := u) (set_rng hf) (Nat.le_refl _) with ⟨h1, h2⟩ | ⟨_, h2, h3⟩
 ·exact .inl ⟨List.eq_nil_of_length_eq_zero h1, h2⟩
 ·refine .inr ⟨h2, fun q hq => ?_⟩
  obtain ⟨i, hi, rfl⟩ := List.getElem_of_mem hq
  have := h3 i hi
  rw [nth_eq hi] at this; exact this
abbrev exV (v : List Int) : List Int := v ++ [0]
theorem exV_at {n : Int} {v : List Int} (hl : (v.length : Int) = n) {p : Int} (p0 : 0 ≤ p) (p1 : p < n) : nth (exV v) p = nth v p := by
 obtain ⟨i, rfl⟩ := Int.eq_ofNat_of_zero_le p0
 exact nth_app1 (by omega)
theorem exV_n {n : Int} {v : List Int} (hl : (v.length : Int) = n) : nth (exV v) n = 0 := by rw [← hl]; exact nth_app2
def znA (fr : Int) (add : List Int) (x : List Bool × Bool) : Nat → List Bool × Bool
 | 0 => x
 | j + 1 => if nth (znA fr add x j).1 (nth add j) = true then ((znA fr add x j).1.set fr.toNat true, true) else znA fr add x j
def znO (t : Tsk) (cs u : List Int) (x : List Bool × Bool) (i : Nat) : List Bool × Bool :=
 if 0 < nth cs i ∨ nth x.1 (hdF t.facts u (nth t.ops i).pre) = true then x else znA (hdF t.facts u (nth t.ops i).pre) (nth t.ops i).add x (nth t.ops i).add.length
def znP (t : Tsk) (cs u : List Int) (z : List Bool) : Nat → List Bool × Bool
 | 0 => (z, false)
 | i + 1 => znO t cs u (znP t cs u z i) i
def bfA (add : List Int) (z : List Bool) (x : List Bool × Bool) : Nat → List Bool × Bool
 | 0 => x
 | j + 1 => if nth (bfA add z x j).1 (nth add j) = false ∧ nth z (nth add j) = false then ((bfA add z x j).1.set (nth add j).toNat true, true) else bfA add z x j
def bfO (t : Tsk) (u : List Int) (z : List Bool) (x : List Bool × Bool) (i : Nat) : List Bool × Bool :=
 if nth x.1 (hdF t.facts u (nth t.ops i).pre) = false then x else bfA (nth t.ops i).add z x (nth t.ops i).add.length
def bfP (t : Tsk) (u : List Int) (z : List Bool) (b : List Bool) : Nat → List Bool × Bool
 | 0 => (b, false)
 | i + 1 => bfO t u z (bfP t u z b i) i
inductive PsR (ps : List Bool → List Bool × Bool) : List Bool → List Bool → Prop
 | done {v : List Bool} : (ps v).2 = false → PsR ps v (ps v).1
 | step {v w : List Bool} : (ps v).2 = true → PsR ps (ps v).1 w → PsR ps v w
def cntF (v : List Bool) : Nat := v.countP fun b => !b
theorem cntF_set {v : List Bool} {p : Int} (p0 : 0 ≤ p) (p1 : p < v.length) (h : nth v p = false) : cntF (v.set p.toNat true) + 1 = cntF v := by
 obtain ⟨k, rfl⟩ := Int.eq_ofNat_of_zero_le p0
 have hk : k < v.length := by omega
 rw [nth_eq hk] at h
 rw [Int.toNat_natCast]
 unfold cntF
 induction v generalizing k with
 | nil => simp at hk
 | cons a v ih =>
  cases k with
  | zero => simp at h; subst h; simp
  | succ k =>
   have := ih k (by simp at hk; omega) (by simp at hk; omega) (by simp at hk; omega) (by simpa using h)
   simp only [List.set_cons_succ, List.countP_cons]
   omega
theorem nth_sB {l : List Bool} {p q : Int} {v : Bool} (h0 : 0 ≤ p) (h1 : p < l.length) (h2 : 0 ≤ q) (h3 : q < l.length) : nth (l.set p.toNat v) q = if q = p then v else nth l q := by
 rw [nth_set h2 h3]
 by_cases h : q = p
 ·rw [if_pos (by omega), if_pos h]
 ·rw [if_neg (by omega), if_neg h]
structure PsP (n : Nat) (x y : List Bool × Bool) : Prop where
 l : x.1.length = n → y.1.length = n
 d : y = x ∨ (y.2 = true ∧ cntF y.1 < cntF x.1)
theorem PsP.refl {n : Nat} {x : List Bool × Bool} : PsP n x x := ⟨id, .inl rfl⟩
theorem PsP.trans {n : Nat} {x y z : List Bool × Bool} (h : PsP n x y) (k : PsP n y z) : PsP n x z := ⟨fun e => k.l (h.l e), by
 rcases k.d with k1 | ⟨k1, k2⟩
 ·rw [k1]; exact h.d
 ·rcases h.d with h1 | ⟨_, h2⟩
  ·rw [h1] at k2; exact .inr ⟨k1, k2⟩
  ·exact .inr ⟨k1, by omega⟩⟩
theorem PsP.set {n : Nat} {x : List Bool × Bool} (hl : x.1.length = n) {p : Int} (p0 : 0 ≤ p) (p1 : p < n) (h : nth x.1 p = false) : PsP n x (x.1.set p.toNat true, true) := ⟨fun e => by simpa using e, .inr ⟨rfl, by have := cntF_set (v := x.1) p0 (by omega) h; show cntF (x.1.set _ true) < _; omega⟩⟩
theorem ps_ends {ps : List Bool → List Bool × Bool} {n : Nat} (h : ∀ v, v.length = n → PsP n (v, false) (ps v)) : ∀ (d : Nat) {v : List Bool}, v.length = n → cntF v < d → ∃ w, PsR ps v w
 | 0, _, _, hd => by omega
 | d + 1, v, hl, hd => by
  have hp := h v hl
  cases hb : (ps v).2 with
  | false => exact ⟨_, .done hb⟩
  | true =>
   rcases hp.d with e | ⟨_, e⟩
   ·rw [e] at hb; cases hb
   ·obtain ⟨w, hw⟩ := ps_ends h d (v := (ps v).1) (hp.l hl) (by have e : cntF (ps v).1 < cntF v := e; omega)
    exact ⟨w, .step hb hw⟩
theorem PsR.keep {ps : List Bool → List Bool × Bool} {I : List Bool → Prop} (h : ∀ v, I v → I (ps v).1) {v w : List Bool} (hr : PsR ps v w) (hv : I v) : I w := by
 induction hr with
 | done _ => exact h _ hv
 | step _ _ ih => exact ih (h _ hv)
theorem PsR.fix {ps : List Bool → List Bool × Bool} (hp : ∀ v, (ps v).2 = false → ps v = (v, false)) {v w : List Bool} (hr : PsR ps v w) : ps w = (w, false) := by
 induction hr with
 | @done v h => have := hp v h; rw [this]; exact this
 | step _ _ ih => exact ih
theorem PsR.inv {ps : List Bool → List Bool × Bool} {v w : List Bool} (h : PsR ps v w) : ((ps v).2 = true → PsR ps (ps v).1 w) ∧ ((ps v).2 = false → (ps v).1 = w) := by
 cases h with
 | done h => exact ⟨fun h2 => (by rw [h] at h2; cases h2), fun _ => rfl⟩
 | step h hr => exact ⟨fun _ => hr, fun h2 => (by rw [h] at h2; cases h2)⟩
def ps_mu (x : List Bool × Bool) : Nat := 2 * cntF x.1 + (if x.2 = true then 1 else 0)
theorem ps_lt {ps : List Bool → List Bool × Bool} {n : Nat} (h : ∀ v, v.length = n → PsP n (v, false) (ps v)) {x : List Bool × Bool} (hl : x.1.length = n) (hx : x.2 = true) : ps_mu (ps x.1) < ps_mu x := by
 unfold ps_mu
 rw [if_pos hx]
 rcases (h x.1 hl).d with e | ⟨e, e2⟩
 ·rw [e]; simp
 ·rw [if_pos e]
  have e2 : cntF (ps x.1).1 < cntF x.1 := e2
  omega
noncomputable def psW (ps : List Bool → List Bool × Bool) (v : List Bool) : List Bool := open Classical in if h : ∃ w, PsR ps v w then h.choose else []
theorem psW_ok {ps : List Bool → List Bool × Bool} {n : Nat} (h : ∀ v, v.length = n → PsP n (v, false) (ps v)) {v : List Bool} (hl : v.length = n) : PsR ps v (psW ps v) := by
 have he : ∃ w, PsR ps v w := ps_ends h _ hl (Nat.lt_succ_self _)
 unfold psW
 rw [dif_pos he]
 exact he.choose_spec
end Go.Eng
end

section
namespace Go.Eng
def cssT (t : Tsk) (k : Nat) : List Int := (List.range k).map fun (i : Nat) => (nth t.ops i).cost
def cssF (t : Tsk) : List Int := cssT t t.ops.length
theorem cssT_s {t : Tsk} {k : Nat} : cssT t (k + 1) = cssT t k ++ [(nth t.ops k).cost] := by simp [cssT, List.range_succ]
theorem cssT_len {t : Tsk} {k : Nat} : (cssT t k).length = k := by simp [cssT]
theorem css_at {t : Tsk} {i : Nat} (hi : i < t.ops.length) : nth (cssF t) i = (nth t.ops i).cost := by unfold cssF cssT; rw [nth_rangeMap hi]
theorem css_v {t : Tsk} (hV : TskV t) : CsV t (cssF t) := ⟨cssT_len, fun i hi => by rw [css_at hi]; exact (hV.op i hi).2⟩
def sttF (t : Tsk) (s : List Int) : Int × Int := if tskF t ≠ (0, 0) then tskF t else if SetP t.facts s then (0, 0) else (5, -4)
section
variable {t : Tsk} {s : List Int} {cmb : Cmb}
theorem sttF_1 (h : tskF t ≠ (0, 0)) : tskF t = sttF t s := by unfold sttF; rw [if_pos h]
theorem sttF_2 (h : tskF t = (0, 0)) (h2 : ¬ SetP t.facts s) : (5, -4) = sttF t s := by unfold sttF; rw [if_neg (fun hn => hn h), if_neg h2]
theorem sttF_0 (h : tskF t = (0, 0)) (h2 : SetP t.facts s) : (0, 0) = sttF t s := by unfold sttF; rw [if_neg (fun hn => hn h), if_pos h2]
theorem sttF_ok (h : sttF t s = (0, 0)) : TskV t ∧ SetP t.facts s := by
 by_cases h1 : tskF t = (0, 0)
 ·by_cases h2 : SetP t.facts s
  ·exact ⟨tskF_v h1, h2⟩
  ·rw [← sttF_2 h1 h2] at h; simp at h
 ·rw [← sttF_1 h1] at h; exact absurd h h1
theorem sttF_code (h : (sttF t s).1 = 0) : sttF t s = (0, 0) := by
 by_cases h1 : tskF t = (0, 0)
 ·by_cases h2 : SetP t.facts s
  ·exact (sttF_0 h1 h2).symm
  ·rw [← sttF_2 h1 h2] at h; simp at h
 ·rw [← sttF_1 h1] at h; exact absurd (tskF_code h) h1
noncomputable def estV (t : Tsk) (s : List Int) (cmb : Cmb) : List Int := if sttF t s = (0, 0) then vlW t s (cssF t) cmb else []
noncomputable def estG (t : Tsk) (s : List Int) (cmb : Cmb) : Int := if sttF t s = (0, 0) then cmb (vlW t s (cssF t) cmb) t.goal else 0
theorem est_1 (h : sttF t s ≠ (0, 0)) : estV t s cmb = [] := by unfold estV; rw [if_neg h]
theorem est_0 (h : sttF t s = (0, 0)) : estV t s cmb = vlW t s (cssF t) cmb := by unfold estV; rw [if_pos h]
theorem estG_1 (h : sttF t s ≠ (0, 0)) : estG t s cmb = 0 := by unfold estG; rw [if_neg h]
theorem estG_0 (h : sttF t s = (0, 0)) : estG t s cmb = cmb (vlW t s (cssF t) cmb) t.goal := by unfold estG; rw [if_pos h]
end
def inT (n k : Nat) : List Int := (List.range n).map fun (i : Nat) => if i < k then 1000000000 else 0
theorem inT_len {n k : Nat} : (inT n k).length = n := by simp [inT]
theorem inT_0 {n : Nat} : inT n 0 = List.replicate n 0 := by
 apply List.ext_getElem (by simp [inT])
 intro i h1 h2; simp [inT]
theorem inT_s {n k : Nat} (hk : k < n) : (inT n k).set k 1000000000 = inT n (k + 1) := by
 apply List.ext_getElem (by simp [inT])
 intro i h1 h2
 rw [List.getElem_set]
 simp only [inT, List.getElem_map, List.getElem_range]
 by_cases h : k = i
 ·subst h; simp
 ·rw [if_neg h]
  by_cases h3 : i < k
  ·rw [if_pos h3, if_pos (by omega)]
  ·rw [if_neg h3, if_neg (by omega)]
theorem inT_end {n : Nat} : inT n n = List.replicate n 1000000000 := by
 apply List.ext_getElem (by simp [inT])
 intro i h1 h2
 simp only [inT, List.length_map, List.length_range] at h1
 simp [inT, h1]
end Go.Eng
end

section
namespace Go.Eng
section
variable {t : Tsk} {s cs u v : List Int} {z b : List Bool}
abbrev nF (t : Tsk) : Nat := t.facts.toNat + 1
theorem hd_in (hV : TskV t) {f : List Int} (hf : SetP t.facts f) : 0 ≤ hdF t.facts u f ∧ hdF t.facts u f ≤ t.facts := hdT_in (set_rng hf) hV.facts.1 (Nat.le_refl _)
theorem znA_p {n : Nat} {fr : Int} {add : List Int} (f0 : 0 ≤ fr) (f1 : fr < n) {x : List Bool × Bool} (hl : x.1.length = n) (hx : nth x.1 fr = false) : ∀ {j : Nat}, (znA fr add x j = x ∨ znA fr add x j = (x.1.set fr.toNat true, true))
 | 0 => .inl rfl
 | j + 1 => by
  have ih := znA_p (add := add) f0 f1 hl hx (j := j)
  simp only [znA]
  split
  ·rcases ih with ih | ih
   ·rw [ih]; exact .inr rfl
   ·rw [ih]; exact .inr (by simp [List.set_set])
  ·exact ih
theorem znO_p (hV : TskV t) {x : List Bool × Bool} {i : Nat} (hi : i < t.ops.length) (hl : x.1.length = nF t) : PsP (nF t) x (znO t cs u x i) := by
 have hh := hd_in (u := u) hV (hV.op i hi).1.1
 unfold znO
 split
 ·exact .refl
 ·rename_i hc
  have hx : nth x.1 (hdF t.facts u (nth t.ops i).pre) = false := by
   cases h : nth x.1 (hdF t.facts u (nth t.ops i).pre) with
   | false => rfl
   | true => exact absurd (.inr h) hc
  have hf := hV.facts
  rcases znA_p (add := (nth t.ops i).add) (n := nF t) hh.1 (by unfold nF; omega) hl hx (j := (nth t.ops i).add.length) with e | e
  ·rw [e]; exact .refl
  ·rw [e]; exact .set hl hh.1 (by unfold nF; omega) hx
theorem znP_p (hV : TskV t) (hl : z.length = nF t) : ∀ {i : Nat}, i ≤ t.ops.length → (znP t cs u z i).1.length = nF t ∧ PsP (nF t) (z, false) (znP t cs u z i)
 | 0, _ => ⟨hl, .refl⟩
 | i + 1, hi => by
  obtain ⟨h1, h2⟩ := znP_p hV hl (i := i) (by omega)
  have h3 := znO_p (cs := cs) (u := u) hV (x := znP t cs u z i) (i := i) (by omega) h1
  exact ⟨h3.l h1, h2.trans h3⟩
theorem znA_flag {fr : Int} {add : List Int} {x : List Bool × Bool} : ∀ {j : Nat}, (znA fr add x j).2 = false → znA fr add x j = x ∧ ∀ k : Nat, k < j → nth x.1 (nth add k) = false
 | 0, _ => ⟨rfl, fun k hk => by omega⟩
 | j + 1, h => by
  simp only [znA] at h ⊢
  split at h
  ·simp at h
  ·rename_i hn
   obtain ⟨h1, h2⟩ := znA_flag h
   rw [if_neg hn]
   refine ⟨h1, fun k hk => ?_⟩
   by_cases hkj : k = j
   ·subst hkj; rw [h1] at hn; simpa using hn
   ·exact h2 k (by omega)
theorem znP_flag : ∀ {i : Nat}, (znP t cs u z i).2 = false → znP t cs u z i = (z, false) ∧ ∀ k : Nat, k < i → nth cs k ≤ 0 → ∀ p, p ∈ (nth t.ops k).add → nth z p = true → nth z (hdF t.facts u (nth t.ops k).pre) = true
 | 0, _ => ⟨rfl, fun k hk => by omega⟩
 | i + 1, h => by
  have h : (znO t cs u (znP t cs u z i) i).2 = false := h
  show znO t cs u (znP t cs u z i) i = _ ∧ _
  unfold znO at h ⊢
  split at h
  ·rename_i hc
   obtain ⟨h1, h2⟩ := znP_flag h
   rw [if_pos hc]
   refine ⟨h1, fun k hk hc0 p hp hz => ?_⟩
   by_cases hki : k = i
   ·subst hki
    rw [h1] at hc
    exact hc.resolve_left (by omega)
   ·exact h2 k (by omega) hc0 p hp hz
  ·rename_i hc
   obtain ⟨h3, h4⟩ := znA_flag h
   have h5 : (znP t cs u z i).2 = false := by rw [← h3]; exact h
   obtain ⟨h1, h2⟩ := znP_flag h5
   rw [if_neg hc]
   refine ⟨h3.trans h1, fun k hk hc0 p hp hz => ?_⟩
   by_cases hki : k = i
   ·subst hki
    obtain ⟨j, hj, rfl⟩ := List.getElem_of_mem hp
    have := h4 j hj
    rw [h1, nth_eq hj] at this
    rw [hz] at this; cases this
   ·exact h2 k (by omega) hc0 p hp hz
def zn0 (t : Tsk) (u : List Int) : List Bool := (List.replicate (nF t) false).set (hdF t.facts u t.goal).toNat true
noncomputable def znW (t : Tsk) (cs u : List Int) : List Bool := psW (fun z => znP t cs u z t.ops.length) (zn0 t u)
theorem znW_ok (hV : TskV t) : PsR (fun z => znP t cs u z t.ops.length) (zn0 t u) (znW t cs u) := psW_ok (n := nF t) (fun z hz => (znP_p hV hz (Nat.le_refl _)).2) (by simp [zn0])
structure ZnP (t : Tsk) (cs u : List Int) (z : List Bool) : Prop where
 l : z.length = nF t
 g : nth z (hdF t.facts u t.goal) = true
 c : ∀ i : Nat, i < t.ops.length → nth cs i ≤ 0 → ∀ p, p ∈ (nth t.ops i).add → nth z p = true → nth z (hdF t.facts u (nth t.ops i).pre) = true
 i : ∀ I : Int → Prop, I (hdF t.facts u t.goal) → (∀ i : Nat, i < t.ops.length → nth cs i ≤ 0 → ∀ p, p ∈ (nth t.ops i).add → I p → I (hdF t.facts u (nth t.ops i).pre)) → ∀ q : Int, 0 ≤ q → q ≤ t.facts → nth z q = true → I q
theorem zn0_at (hV : TskV t) {q : Int} (q0 : 0 ≤ q) (q1 : q ≤ t.facts) : nth (zn0 t u) q = decide (q = hdF t.facts u t.goal) := by
 have hh := hd_in (u := u) hV hV.goal
 have hf := hV.facts
 unfold zn0
 rw [nth_sB hh.1 (by simp; omega) q0 (by simp; omega)]
 split
 ·rename_i h; rw [decide_eq_true h]
 ·rename_i h
  rw [decide_eq_false h]
  obtain ⟨k, rfl⟩ := Int.eq_ofNat_of_zero_le q0
  rw [nth_eq (by rw [List.length_replicate]; show k < t.facts.toNat + 1; omega), List.getElem_replicate]
theorem zn_p (hV : TskV t) : ZnP t cs u (znW t cs u) := by
 have hr := znW_ok (cs := cs) (u := u) hV
 have hf := hV.facts
 have hh := hd_in (u := u) hV hV.goal
 have hfix := hr.fix (fun z h => (znP_flag h).1)
 have hlen : (znW t cs u).length = nF t := hr.keep (I := fun z => z.length = nF t) (fun z hz => (znP_p hV hz (Nat.le_refl _)).1) (by simp [zn0])
 have hkeep : ∀ J : List Bool → Prop, (∀ y (i : Nat) p, J y → y.length = nF t → i < t.ops.length → nth cs i ≤ 0 → p ∈ (nth t.ops i).add → nth y p = true → J (y.set (hdF t.facts u (nth t.ops i).pre).toNat true)) → J (zn0 t u) → J (znW t cs u) := fun J hJ h0 => by
  have key := hr.keep (I := fun z => z.length = nF t ∧ J z) (fun z hz => ?_) ⟨by simp [zn0], h0⟩
  ·exact key.2
  ·have : ∀ i : Nat, i ≤ t.ops.length → (znP t cs u z i).1.length = nF t ∧ J (znP t cs u z i).1 := fun i => by
    induction i with
    | zero => exact fun _ => hz
    | succ i ih =>
     intro hi
     obtain ⟨g1, g2⟩ := ih (by omega)
     refine ⟨(znP_p hV hz.1 hi).1, ?_⟩
     show J (znO t cs u (znP t cs u z i) i).1
     unfold znO
     split
     ·exact g2
     ·rename_i hc
      have hc0 : nth cs i ≤ 0 := Int.not_lt.1 fun h => hc (.inl h)
      have : ∀ j : Nat, j ≤ (nth t.ops i).add.length → (znA (hdF t.facts u (nth t.ops i).pre) (nth t.ops i).add (znP t cs u z i) j).1.length = nF t ∧ J (znA (hdF t.facts u (nth t.ops i).pre) (nth t.ops i).add (znP t cs u z i) j).1 := fun j => by
       induction j with
       | zero => exact fun _ => ⟨g1, g2⟩
       | succ j ihj =>
        intro hj
        obtain ⟨k1, k2⟩ := ihj (by omega)
        simp only [znA]
        split
        ·rename_i hz
         exact ⟨by simpa using k1, hJ _ i _ k2 k1 (by omega) hc0 (nth_mem (l := (nth t.ops i).add) (n := (j : Int)) (by omega) (by omega)) hz⟩
        ·exact ⟨k1, k2⟩
      exact (this _ (Nat.le_refl _)).2
   exact this _ (Nat.le_refl _)
 refine ⟨hlen, ?_, ?_, fun I h0 hI => ?_⟩
 ·refine hkeep (fun y => nth y (hdF t.facts u t.goal) = true) (fun y i p hy hl hi _ _ _ => ?_) (by rw [zn0_at hV hh.1 hh.2]; simp)
  have hp := hd_in (u := u) hV (hV.op i hi).1.1
  rw [nth_sB hp.1 (by rw [hl]; unfold nF; omega) hh.1 (by rw [hl]; unfold nF; omega)]
  split
  ·rfl
  ·exact hy
 ·have h := (znP_flag (t := t) (cs := cs) (u := u) (z := znW t cs u) (i := t.ops.length) (by rw [hfix])).2
  exact h
 ·refine hkeep (fun y => ∀ q : Int, 0 ≤ q → q ≤ t.facts → nth y q = true → I q) (fun y i p hy hl hi hc0 hp hyp q q0 q1 hq => ?_) (fun q q0 q1 hq => ?_)
  ·have hpr := hd_in (u := u) hV (hV.op i hi).1.1
   rw [nth_sB hpr.1 (by rw [hl]; unfold nF; omega) q0 (by rw [hl]; unfold nF; omega)] at hq
   split at hq
   ·rename_i hqe
    have hpf := setP_mem (hV.op i hi).1.2.1 hp
    rw [hqe]
    exact hI i hi hc0 p hp (hy p hpf.1 (by omega) hyp)
   ·exact hy q q0 q1 hq
  ·rw [zn0_at hV q0 q1] at hq
   rw [of_decide_eq_true hq]; exact h0
end
end Go.Eng
end
