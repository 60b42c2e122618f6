/- Part 6. -/
import Derived.Test.YtgophedpkiidkaaGreatE5
import Derived.RangeFuncLeaves
import Derived.Laws.CopyRow
import Derived.Shelf.SlSortCmp.Whole1
set_option linter.unusedSimpArgs false
set_option linter.unnecessarySimpa false
set_option linter.unusedVariables false
set_option linter.unusedSectionVars false
section
namespace Go.Proofs.YtgophedpkiidkaaGreat
open Go.Eng
set_option maxRecDepth 10000
set_option maxHeartbeats 1000000
theorem lmcut_search_hardest_does (t : Tsk) (s cs u f : List Int) (hV : TskV t) (hu : (u.length : Int) = t.facts + 1) (hf : SetP t.facts f) : Does Tryz.prog false 144 [.p [.v (.int .i64 t.facts), ints t.ini, ints t.goal, sopsD t.ops, ints s, ints cs, ints u], .d (ints f)] (I (hdF t.facts u f)) := by
 have hf0 := hV.facts
 have hrg := set_rng hf
 refine Does.of_body Tryz.func144 rfl rfl (by simp) Tryz.call144 (fun w0 O0 => ?_); refine .le 1 fun len1 => ?_; refine .g <| .r <| .a ?_; refine .z <| .m ?_; refine .x (OpSem.nilp rfl rfl) ?_; refine .x (OpSem.fieldp rfl rfl fo224_0) ?_; refine .x (OpSem.fieldp rfl rfl fo43_0) ?_; refine .x (.l1 vs3) ?_; refine .a ?_; refine .sq <| .g <| .g <| .r <| .m ?_; refine .x (.n es22) ?_; refine .m ?_; refine .sq <| .k <| .loop (X := Nat) (fun k => k ≤ f.length) (fun k => [(0, .p [.v (.int .i64 t.facts), ints t.ini, ints t.goal, sopsD t.ops, ints s, ints cs, ints u]), (5, I (hdT t.facts u f k)), (13, .d (ints f)), (14, I (f.length)), (15, I (k))]) (fun k => []) (fun k => f.length - k) 0 (by omega) ?_ ?_
 ·exact .sl <| .slot rfl (Le.of_eq rfl) <| .p2 <| .slot rfl (Le.of_eq (by simp)) <| .nil
 ·rintro k hkl
  refine .g <| .r <| .x (.b blss) ?_; refine .sq <| .g <| .cond rfl (fun c16 => ?_) (fun c16 => ?_)
  ·have hk : k < f.length := by simpa using c16
   have hfk := hrg k hk
   have hd := hdT_in (u := u) hrg hf0.1 hkl
   refine .p <| .g <| .g <| .k <| .g <| .r <| .x (.i es22) ?_; refine .x (.l1 vs3) ?_; refine .a ?_; refine .sq <| .g <| PC.start [] ?_; refine .mm ?_; refine .x (OpSem.nilp rfl rfl) ?_; refine .x (OpSem.fieldp rfl rfl fo224_0) ?_; refine .x (OpSem.fieldp rfl rfl fo43_0) ?_; refine .x (.l1 vs3) ?_; refine .x (.b beql) ?_; refine .m ?_; refine .split (n := 26) rfl (fun c26 => ?_) (fun c26 => ?_)
   ·refine .hf c26 ?_; refine .hf c26 ?_; refine .hf c26 ?_; refine .hf c26 ?_; refine .hf c26 ?_; refine .hf c26 ?_; refine .hf c26 ?_; refine .hf c26 ?_; refine .hf c26 ?_; refine .hf c26 ?_; refine .hf c26 ?_; refine .hf c26 ?_; refine .hf c26 ?_; refine .hf c26 ?_; refine .d0 mixed ?_; refine .hf c26 ?_; refine .x (OpSem.pickT rfl rfl c26 rfl) ?_; refine .sq <| .condT rfl rfl ?_; refine .r <| .m ?_; refine .a ?_; refine .n <| .n <| .y <| .x .ad ?_; refine .m ?_; refine .n <| .again (k + 1) (by omega) ?_ (by omega); exact .sl <| .slot rfl (Le.i (by simp only [hdT]; rw [if_pos (.inl (by simpa using c26))])) <| .p2 <| .slot rfl (Le.of_eq (by simp)) <| .nil
   ·refine .ht (OpSem.move (.inl rfl) rfl) c26 ?_; refine .ht (OpSem.nilp rfl rfl) c26 ?_; refine .ht (OpSem.fieldp rfl rfl fo224_3) c26 ?_; refine .ht (.l1 vs22) c26 ?_; refine .ht (OpSem.move (.inl rfl) rfl) c26 ?_; refine .ht (.i es22) c26 ?_; refine .ht (.l1 vs3) c26 ?_; refine .ht (OpSem.move (.inl rfl) rfl) c26 ?_; refine .ht (OpSem.nilp rfl rfl) c26 ?_; refine .ht (OpSem.fieldp rfl rfl fo224_3) c26 ?_; refine .ht (.l1 vs22) c26 ?_; refine .ht (OpSem.move (.inl rfl) rfl) c26 ?_; refine .ht (.i es22) c26 ?_; refine .ht (.l1 vs3) c26 ?_; refine .d0 mixed ?_; refine .ht c26 ?_; refine .x (.b bgtr) ?_; refine .x (OpSem.pickF rfl rfl c26 rfl) ?_; refine .sq <| .cond rfl (fun c42 => ?_) (fun c42 => ?_)
    ·refine .r <| .m ?_; refine .a ?_; refine .n <| .n <| .y <| .x .ad ?_; refine .m ?_; refine .n <| .again (k + 1) (by omega) ?_ (by omega); exact .sl <| .slot rfl (Le.i (by simp only [hdT]; rw [if_pos (.inr (by simpa using c42))])) <| .p2 <| .slot rfl (Le.of_eq (by simp)) <| .nil
    ·refine .p <| .n <| .y <| .x .ad ?_; refine .m ?_; refine .n <| .again (k + 1) (by omega) ?_ (by omega); exact .sl <| .slot rfl (Le.i (by simp only [hdT]; rw [if_neg (fun h => h.elim (by simpa using c26) (by simpa using c42))])) <| .p2 <| .slot rfl (Le.of_eq (by simp)) <| .nil
  ·have hk : k = f.length := by simp at c16; omega
   refine .u <| .u <| .u <| .b <| .z <| .m ?_; refine .a ?_; exact .sq <| .t <| .ret rfl (.tmp rfl <| .nil) rfl (Le.i (by subst hk; rfl))
theorem lmcut_search_zone_does (t : Tsk) (s cs u : List Int) (hV : TskV t) (hu : (u.length : Int) = t.facts + 1) (hc : CsV t cs) : DoesO Tryz.prog 142 [.p [.v (.int .i64 t.facts), ints t.ini, ints t.goal, sopsD t.ops, ints s, ints cs, ints u]] 1 4 (((znW t cs u).map fun b => [D.v (.bool b)])) := by
 have hf0 := hV.facts
 have hol := hV.ops
 have hn := nF_eq t
 have hcl := hc.l
 have hh := hd_in (u := u) hV hV.goal
 refine DoesO.of_body Tryz.func142 rfl rfl (by simp) Tryz.call142 (fun w0 O0 => ?_); refine .g <| .r <| .a ?_; refine .z <| .m ?_; refine .x (OpSem.nilp rfl rfl) ?_; refine .x (OpSem.fieldp rfl rfl fo224_0) ?_; refine .x (OpSem.fieldp rfl rfl fo43_0) ?_; refine .x (.l1 vs3) ?_; refine .x .ad ?_; refine .mk 16 es202 ze202 bye202 ?_; refine .a ?_; refine .sq <| .g <| .memEq (h := 16) (m' := .own 1 4 ((List.replicate (nF t) false).map fun b => [D.v (.bool b)])) rfl (by rw [el202, show (t.facts + 1).toNat = nF t from by rw [nF_eq]; omega]; first | (simp; done) | (simp; rfl)) ?_; refine .r <| .mm ?_; refine .m ?_; refine .x (OpSem.nilp rfl rfl) ?_; refine .x (OpSem.fieldp rfl rfl fo224_0) ?_; refine .x (OpSem.fieldp rfl rfl fo43_2) ?_; refine .x (.l1 vs22) ?_; refine .x (OpSem.call0 (lmcut_search_hardest_does t s cs u t.goal hV hu hV.goal) rfl rfl rfl rfl (Les.refl _)) ?_; refine .x (OpSem.idxo rfl rfl rfl rfl es202 (by omega) (by simp; omega)) ?_; refine .storeq rfl rfl rfl rfl rfl rfl rfl vs4 (rows_get (by omega) (by first | (simp; done) | (simp; omega))) (by simp) ?_; refine .sq <| .g <| .g <| .r <| .a ?_; refine .sq <| .k <| .loop (X := (List Bool × Bool)) (fun x => x.1.length = nF t ∧ (x.2 = true → PsR (fun z => znP t cs u z t.ops.length) x.1 (znW t cs u)) ∧ (x.2 = false → x.1 = znW t cs u)) (fun x => [(0, .p [.v (.int .i64 t.facts), ints t.ini, ints t.goal, sopsD t.ops, ints s, ints cs, ints u]), (3, .o 16), (4, Bo (x.2))]) (fun x => [(16, .own 1 4 (x.1.map fun b => [D.v (.bool b)]))]) (fun x => ps_mu x) (zn0 t u, true) ⟨by simp [zn0], fun _ => znW_ok hV, fun h => by cases h⟩ ?_ ?_
 ·exact .p3 <| .memEq rfl (by exact congrArg (Mo.own 1 4) (rows_set (f := fun b => [D.v (.bool b)]))) <| .nil
 ·rintro x ⟨hC, hT, hF⟩
  refine .g <| .g <| .r <| .m ?_; refine .sq <| .cond rfl (fun c26 => ?_) (fun c26 => ?_)
  ·obtain ⟨hI1, hI2⟩ := (hT c26).inv
   refine .p <| .g <| .k <| .g <| .r <| .a ?_; refine .z <| .m ?_; refine .x (OpSem.nilp rfl rfl) ?_; refine .x (OpSem.fieldp rfl rfl fo224_0) ?_; refine .x (OpSem.fieldp rfl rfl fo43_3) ?_; refine .x (.l1 vs41) ?_; refine .x (.n es41) ?_; refine .m ?_; refine .sq <| .k <| .loop (X := Nat) (fun i => i ≤ t.ops.length) (fun i => [(0, .p [.v (.int .i64 t.facts), ints t.ini, ints t.goal, sopsD t.ops, ints s, ints cs, ints u]), (3, .o 16), (4, Bo ((znP t cs u x.1 i).2)), (31, .d (sopsD t.ops)), (32, I (t.ops.length)), (33, I (i))]) (fun i => [(16, .own 1 4 (((znP t cs u x.1 i).1).map fun b => [D.v (.bool b)]))]) (fun i => t.ops.length - i) 0 (by omega) ?_ ?_
   ·exact .p2 <| .slot rfl (Le.bo rfl) <| .p2 <| .slot rfl (Le.of_eq (by simp)) <| .memEq rfl rfl <| .nil
   ·rintro i hil
    refine .g <| .r <| .x (.b blss) ?_; refine .sq <| .g <| .cond rfl (fun c34 => ?_) (fun c34 => ?_)
    ·have hi : i < t.ops.length := by simpa using c34
     have hP := (znP_p (cs := cs) (u := u) hV hC (i := i) (by omega)).1
     have hpre := (hV.op i hi).1.1
     have hadd := set_rng (hV.op i hi).1.2.1
     have hadl := setP_len (hV.op i hi).1.2.1 hf0.2
     have hhp := hd_in (u := u) hV hpre
     refine .p <| .g <| .g <| .k <| .g <| .r <| .m ?_; refine .x (.i es41) ?_; refine .x (.lN vs75) ?_; refine .al 6 zc75 ?_; refine .a ?_; refine .sb vs75 ?_; refine .z <| .m ?_; refine .x (.f fo75_0) ?_; refine .x (.l vs22) ?_; refine .x (OpSem.call0 (lmcut_search_hardest_does t s cs u (nth t.ops i).pre hV hu hpre) rfl rfl rfl rfl (Les.refl _)) ?_; refine .a ?_; refine .sq <| .g <| .g <| .r <| .m ?_; refine .x (OpSem.nilp rfl rfl) ?_; refine .x (OpSem.fieldp rfl rfl fo224_2) ?_; refine .x (.l1 vs22) ?_; refine .m ?_; refine .x (.i es22) ?_; refine .x (.l1 vs3) ?_; refine .x (.b bgtr) ?_; refine .m ?_; refine .split (n := 50) rfl (fun c50 => ?_) (fun c50 => ?_)
     ·have hst : znP t cs u x.1 (i + 1) = (znP t cs u x.1 i) := by show znO t cs u (znP t cs u x.1 i) i = _; unfold znO; rw [if_pos (.inl (by simpa using c50))]
      refine .hf c50 ?_; refine .hf c50 ?_; refine .hf c50 ?_; refine .hf c50 ?_; refine .x (OpSem.pickT rfl rfl c50 rfl) ?_; refine .sq <| .condT rfl rfl ?_; refine .u <| .u <| .b <| .y <| .x .ad ?_; refine .m ?_; refine .n <| .again (i + 1) (by omega) ?_ (by omega); exact .p2 <| .slot rfl (Le.bo (by rw [hst])) <| .p2 <| .slot rfl (Le.of_eq (by simp)) <| .memEq rfl (by rw [hst] <;> rfl) <| .nil
     ·refine .ht c50 ?_; refine .m ?_; refine .ht c50 ?_; refine .m ?_; refine .ht c50 ?_; refine .x (OpSem.idxo rfl rfl rfl rfl es202 (by omega) (by simp; omega)) ?_; refine .ht c50 ?_; refine .x (OpSem.loadq rfl rfl rfl vs4 (rows_get (by omega) (by omega)) rfl) ?_; refine .x (OpSem.pickF rfl rfl c50 rfl) ?_; refine .sq <| .cond rfl (fun c55 => ?_) (fun c55 => ?_)
      ·have hst : znP t cs u x.1 (i + 1) = (znP t cs u x.1 i) := by show znO t cs u (znP t cs u x.1 i) i = _; unfold znO; rw [if_pos (.inr (by simpa using c55))]
       refine .u <| .u <| .b <| .y <| .x .ad ?_; refine .m ?_; refine .n <| .again (i + 1) (by omega) ?_ (by omega); exact .p2 <| .slot rfl (Le.bo (by rw [hst])) <| .p2 <| .slot rfl (Le.of_eq (by simp)) <| .memEq rfl (by rw [hst] <;> rfl) <| .nil
      ·have hst : znP t cs u x.1 (i + 1) = znA (hdF t.facts u (nth t.ops i).pre) (nth t.ops i).add (znP t cs u x.1 i) (nth t.ops i).add.length := by show znO t cs u (znP t cs u x.1 i) i = _; unfold znO; rw [if_neg (fun h => h.elim (by simpa using c50) (by simpa using c55))]
       refine .p <| .z <| .x (.f fo75_1) ?_; refine .x (.l vs22) ?_; refine .x (.n es22) ?_; refine .m ?_; refine .sq <| .k <| .loop (X := Nat) (fun j => j ≤ (nth t.ops i).add.length) (fun j => [(0, .p [.v (.int .i64 t.facts), ints t.ini, ints t.goal, sopsD t.ops, ints s, ints cs, ints u]), (3, .o 16), (4, Bo ((znA (hdF t.facts u (nth t.ops i).pre) (nth t.ops i).add (znP t cs u x.1 i) j).2)), (7, I ((hdF t.facts u (nth t.ops i).pre))), (31, .d (sopsD t.ops)), (32, I (t.ops.length)), (33, I (i)), (57, .d (ints ((nth t.ops i).add))), (58, I (((nth t.ops i).add).length)), (59, I (j))]) (fun j => [(16, .own 1 4 (((znA (hdF t.facts u (nth t.ops i).pre) (nth t.ops i).add (znP t cs u x.1 i) j).1).map fun b => [D.v (.bool b)]))]) (fun j => (nth t.ops i).add.length - j) 0 (by omega) ?_ ?_
       ·exact .p2 <| .slot rfl (Le.bo rfl) <| .p5 <| .sl <| .slot rfl (Le.of_eq (by simp)) <| .memEq rfl rfl <| .nil
       ·rintro j hjl
        refine .g <| .r <| .x (.b blss) ?_; refine .sq <| .g <| .cond rfl (fun c60 => ?_) (fun c60 => ?_)
        ·have hj : j < (nth t.ops i).add.length := by simpa using c60
         have hpj := hadd j hj
         have hZl : (znA (hdF t.facts u (nth t.ops i).pre) (nth t.ops i).add (znP t cs u x.1 i) j).1.length = nF t := znA_len.trans hP
         refine .p <| .g <| .g <| .k <| .g <| .r <| .x (.i es22) ?_; refine .x (.l1 vs3) ?_; refine .a ?_; refine .z <| .mm ?_; refine .x (OpSem.idxo rfl rfl rfl rfl es202 (by omega) (by simp; omega)) ?_; refine .x (OpSem.loadq rfl rfl rfl vs4 (rows_get (by omega) (by omega)) rfl) ?_; refine .sq <| .cond rfl (fun c66 => ?_) (fun c66 => ?_)
         ·have hsj : znA (hdF t.facts u (nth t.ops i).pre) (nth t.ops i).add (znP t cs u x.1 i) (j + 1) = ((znA (hdF t.facts u (nth t.ops i).pre) (nth t.ops i).add (znP t cs u x.1 i) j).1.set (hdF t.facts u (nth t.ops i).pre).toNat true, true) := by simp only [znA]; rw [if_pos c66]
          refine .r <| .mm ?_; refine .x (OpSem.idxo rfl rfl rfl rfl es202 (by omega) (by simp; omega)) ?_; refine .storeq rfl rfl rfl rfl rfl rfl rfl vs4 (rows_get (by omega) (by omega)) (by simp) ?_; refine .a ?_; refine .n <| .n <| .y <| .x .ad ?_; refine .m ?_; refine .n <| .again (j + 1) (by omega) ?_ (by omega); exact .p2 <| .slot rfl (Le.bo (by rw [hsj])) <| .p5 <| .sl <| .slot rfl (Le.of_eq (by simp)) <| .memEq rfl (by rw [hsj]; exact congrArg (Mo.own 1 4) (rows_set (f := fun b => [D.v (.bool b)]))) <| .nil
         ·have hsj : znA (hdF t.facts u (nth t.ops i).pre) (nth t.ops i).add (znP t cs u x.1 i) (j + 1) = (znA (hdF t.facts u (nth t.ops i).pre) (nth t.ops i).add (znP t cs u x.1 i) j) := by simp only [znA]; rw [if_neg (by simpa using c66)]
          refine .p <| .n <| .y <| .x .ad ?_; refine .m ?_; refine .n <| .again (j + 1) (by omega) ?_ (by omega); exact .p2 <| .slot rfl (Le.bo (by rw [hsj])) <| .p5 <| .sl <| .slot rfl (Le.of_eq (by simp)) <| .memEq rfl (by rw [hsj] <;> rfl) <| .nil
        ·have hj : j = (nth t.ops i).add.length := by simp at c60; omega
         subst hj
         have hZl : (znA (hdF t.facts u (nth t.ops i).pre) (nth t.ops i).add (znP t cs u x.1 i) (nth t.ops i).add.length).1.length = nF t := znA_len.trans hP
         refine .u <| .u <| .u <| .b <| .n <| .y <| .x .ad ?_; refine .m ?_; refine .n <| .again (i + 1) (by omega) ?_ (by omega); exact .p2 <| .slot rfl (Le.bo (by rw [hst])) <| .p2 <| .slot rfl (Le.of_eq (by simp)) <| .memEq rfl (by rw [hst] <;> rfl) <| .nil
    ·have hi : i = t.ops.length := by simp at c34; omega
     subst hi
     refine .u <| .u <| .u <| .b <| .n <| .again (znP t cs u x.1 t.ops.length) ⟨(znP_p hV hC (Nat.le_refl _)).1, hI1, hI2⟩ ?_ (ps_lt (ps := (fun z => znP t cs u z t.ops.length)) (fun z hz => (znP_p hV hz (Nat.le_refl _)).2) hC c26); exact .p3 <| .memEq rfl rfl <| .nil
  ·have hW := hF c26
   refine .u <| .u <| .u <| .b <| .z <| .m ?_; refine .a ?_; exact .sq <| .t <| .retO2 rfl rfl rfl (by simp) (by rw [hW])
theorem lmcut_search_before_does (t : Tsk) (s cs u : List Int) (z : List Bool) (hV : TskV t) (hu : (u.length : Int) = t.facts + 1) (hs : ∀ p, p ∈ s → 0 ≤ p ∧ p < t.facts) (hsl : s.length ≤ 1000000) (hz : z.length = nF t) : DoesO Tryz.prog 143 [.p [.v (.int .i64 t.facts), ints t.ini, ints t.goal, sopsD t.ops, ints s, ints cs, ints u], .d (bools z)] 1 4 (((bfW t s u z).map fun b => [D.v (.bool b)])) := by
 have hf0 := hV.facts
 have hol := hV.ops
 have hn := nF_eq t
 refine DoesO.of_body Tryz.func143 rfl rfl (by simp) Tryz.call143 (fun w0 O0 => ?_); refine .le 1 fun len1 => ?_; refine .g <| .r <| .a ?_; refine .z <| .m ?_; refine .x (OpSem.nilp rfl rfl) ?_; refine .x (OpSem.fieldp rfl rfl fo224_0) ?_; refine .x (OpSem.fieldp rfl rfl fo43_0) ?_; refine .x (.l1 vs3) ?_; refine .x .ad ?_; refine .mk 19 es202 ze202 bye202 ?_; refine .a ?_; refine .sq <| .g <| .memEq (h := 19) (m' := .own 1 4 ((List.replicate (nF t) false).map fun b => [D.v (.bool b)])) rfl (by rw [el202, show (t.facts + 1).toNat = nF t from by rw [nF_eq]; omega]; first | (simp; done) | (simp; rfl)) ?_; refine .r <| .mm ?_; refine .x (OpSem.nilp rfl rfl) ?_; refine .x (OpSem.fieldp rfl rfl fo224_0) ?_; refine .x (OpSem.fieldp rfl rfl fo43_0) ?_; refine .x (.l1 vs3) ?_; refine .x (OpSem.idxo rfl rfl rfl rfl es202 (by omega) (by simp <;> omega)) ?_; refine .storeq rfl rfl rfl rfl rfl rfl rfl vs4 (rows_get (by omega) (by first | (simp; done) | (simp; omega))) (by simp) ?_; refine .sq <| .g <| .g <| .r <| .m ?_; refine .x (OpSem.nilp rfl rfl) ?_; refine .x (OpSem.fieldp rfl rfl fo224_1) ?_; refine .x (.l1 vs22) ?_; refine .x (.n es22) ?_; refine .m ?_; refine .sq <| .k <| .loop (X := Nat) (fun k => k ≤ s.length) (fun k => [(0, .p [.v (.int .i64 t.facts), ints t.ini, ints t.goal, sopsD t.ops, ints s, ints cs, ints u]), (1, .d (bools z)), (5, .o 19), (30, .d (ints s)), (31, I (s.length)), (32, I (k))]) (fun k => [(19, .own 1 4 ((bfI t s k).map fun b => [D.v (.bool b)]))]) (fun k => s.length - k) 0 (by omega) ?_ ?_
 ·exact .p5 <| .slot rfl (Le.of_eq (by simp)) <| .memEq rfl (by exact congrArg (Mo.own 1 4) (rows_set (f := fun b => [D.v (.bool b)]))) <| .nil
 ·rintro k hkl
  refine .g <| .r <| .x (.b blss) ?_; refine .sq <| .g <| .cond rfl (fun c33 => ?_) (fun c33 => ?_)
  ·have hk : k < s.length := by simpa using c33
   have hsk := hs _ (nth_mem (l := s) (n := k) (by omega) (by omega))
   have hbl := (bfI_at (t := t) hV hs (k := k) (by omega)).1
   refine .p <| .g <| .g <| .k <| .g <| .r <| .x (.i es22) ?_; refine .x (.l1 vs3) ?_; refine .a ?_; refine .y <| .mm ?_; refine .x (OpSem.idxo rfl rfl rfl rfl es202 (by omega) (by simp; omega)) ?_; refine .storeq rfl rfl rfl rfl rfl rfl rfl vs4 (rows_get (by omega) (by omega)) (by simp) ?_; refine .n <| .n <| .y <| .x .ad ?_; refine .m ?_; refine .n <| .again (k + 1) (by omega) ?_ (by omega); exact .p5 <| .slot rfl (Le.of_eq (by simp)) <| .memEq rfl (by exact congrArg (Mo.own 1 4) (rows_set (f := fun b => [D.v (.bool b)]))) <| .nil
  ·have hk : k = s.length := by simp at c33; omega
   subst hk
   refine .u <| .u <| .u <| .b <| .g <| .g <| .g <| .r <| .a ?_; refine .sq <| .k <| .loop (X := (List Bool × Bool)) (fun x => x.1.length = nF t ∧ (x.2 = true → PsR (fun b => bfP t u z b t.ops.length) x.1 (bfW t s u z)) ∧ (x.2 = false → x.1 = bfW t s u z)) (fun x => [(0, .p [.v (.int .i64 t.facts), ints t.ini, ints t.goal, sopsD t.ops, ints s, ints cs, ints u]), (1, .d (bools z)), (5, .o 19), (8, Bo (x.2))]) (fun x => [(19, .own 1 4 (x.1.map fun b => [D.v (.bool b)]))]) (fun x => ps_mu x) (bf0 t s, true) ⟨(bf0_at hV hs).1, fun _ => bfW_ok hV hs, fun h => by cases h⟩ ?_ ?_
   ·exact .p3 <| .sl <| .memEq rfl rfl <| .nil
   ·rintro x ⟨hC, hT, hF⟩
    refine .g <| .g <| .r <| .m ?_; refine .sq <| .cond rfl (fun c40 => ?_) (fun c40 => ?_)
    ·obtain ⟨hI1, hI2⟩ := (hT c40).inv
     refine .p <| .g <| .k <| .g <| .r <| .a ?_; refine .z <| .m ?_; refine .x (OpSem.nilp rfl rfl) ?_; refine .x (OpSem.fieldp rfl rfl fo224_0) ?_; refine .x (OpSem.fieldp rfl rfl fo43_3) ?_; refine .x (.l1 vs41) ?_; refine .x (.n es41) ?_; refine .m ?_; refine .sq <| .k <| .loop (X := Nat) (fun i => i ≤ t.ops.length) (fun i => [(0, .p [.v (.int .i64 t.facts), ints t.ini, ints t.goal, sopsD t.ops, ints s, ints cs, ints u]), (1, .d (bools z)), (5, .o 19), (8, Bo ((bfP t u z x.1 i).2)), (45, .d (sopsD t.ops)), (46, I (t.ops.length)), (47, I (i))]) (fun i => [(19, .own 1 4 (((bfP t u z x.1 i).1).map fun b => [D.v (.bool b)]))]) (fun i => t.ops.length - i) 0 (by omega) ?_ ?_
     ·exact .p3 <| .slot rfl (Le.bo rfl) <| .p2 <| .slot rfl (Le.of_eq (by simp)) <| .memEq rfl rfl <| .nil
     ·rintro i hil
      refine .g <| .r <| .x (.b blss) ?_; refine .sq <| .g <| .cond rfl (fun c48 => ?_) (fun c48 => ?_)
      ·have hi : i < t.ops.length := by simpa using c48
       have hP := (bfP_p (u := u) (z := z) hV hC (i := i) (by omega)).1
       have hpre := (hV.op i hi).1.1
       have hadd := set_rng (hV.op i hi).1.2.1
       have hadl := setP_len (hV.op i hi).1.2.1 hf0.2
       have hhp := hd_in (u := u) hV hpre
       refine .p <| .g <| .g <| .k <| .g <| .r <| .x (.i es41) ?_; refine .x (.lN vs75) ?_; refine .al 10 zc75 ?_; refine .sb vs75 ?_; refine .sq <| .g <| .g <| .r <| .mm ?_; refine .x (.f fo75_0) ?_; refine .x (.l vs22) ?_; refine .x (OpSem.call0 (lmcut_search_hardest_does t s cs u (nth t.ops i).pre hV hu hpre) rfl rfl rfl rfl (Les.refl _)) ?_; refine .x (OpSem.idxo rfl rfl rfl rfl es202 (by omega) (by simp; omega)) ?_; refine .x (OpSem.loadq rfl rfl rfl vs4 (rows_get (by omega) (by omega)) rfl) ?_; refine .x .nt ?_; refine .sq <| .cond rfl (fun c58 => ?_) (fun c58 => ?_)
       ·have hst : bfP t u z x.1 (i + 1) = (bfP t u z x.1 i) := by show bfO t u z (bfP t u z x.1 i) i = _; unfold bfO; rw [if_pos (by simpa using c58)]
        refine .u <| .u <| .b <| .y <| .x .ad ?_; refine .m ?_; refine .n <| .again (i + 1) (by omega) ?_ (by omega); exact .p3 <| .slot rfl (Le.bo (by rw [hst])) <| .p2 <| .slot rfl (Le.of_eq (by simp)) <| .memEq rfl (by rw [hst] <;> rfl) <| .nil
       ·have hst : bfP t u z x.1 (i + 1) = bfA (nth t.ops i).add z (bfP t u z x.1 i) (nth t.ops i).add.length := by show bfO t u z (bfP t u z x.1 i) i = _; unfold bfO; rw [if_neg (by simpa using c58)]
        refine .p <| .z <| .x (.f fo75_1) ?_; refine .x (.l vs22) ?_; refine .x (.n es22) ?_; refine .m ?_; refine .sq <| .k <| .loop (X := Nat) (fun j => j ≤ (nth t.ops i).add.length) (fun j => [(0, .p [.v (.int .i64 t.facts), ints t.ini, ints t.goal, sopsD t.ops, ints s, ints cs, ints u]), (1, .d (bools z)), (5, .o 19), (8, Bo ((bfA (nth t.ops i).add z (bfP t u z x.1 i) j).2)), (45, .d (sopsD t.ops)), (46, I (t.ops.length)), (47, I (i)), (60, .d (ints ((nth t.ops i).add))), (61, I (((nth t.ops i).add).length)), (62, I (j))]) (fun j => [(19, .own 1 4 (((bfA (nth t.ops i).add z (bfP t u z x.1 i) j).1).map fun b => [D.v (.bool b)]))]) (fun j => (nth t.ops i).add.length - j) 0 (by omega) ?_ ?_
        ·exact .p3 <| .slot rfl (Le.bo rfl) <| .p5 <| .slot rfl (Le.of_eq (by simp)) <| .memEq rfl rfl <| .nil
        ·rintro j hjl
         refine .g <| .r <| .x (.b blss) ?_; refine .sq <| .g <| .cond rfl (fun c63 => ?_) (fun c63 => ?_)
         ·have hj : j < (nth t.ops i).add.length := by simpa using c63
          have hpj := hadd j hj
          have hZl : (bfA (nth t.ops i).add z (bfP t u z x.1 i) j).1.length = nF t := (bfA_p (bf_add hV hi) hP (j := j) (by omega)).1
          refine .p <| .g <| .g <| .k <| .g <| .r <| .x (.i es22) ?_; refine .x (.l1 vs3) ?_; refine .a ?_; refine .z <| .mm ?_; refine .x (OpSem.idxo rfl rfl rfl rfl es202 (by omega) (by simp; omega)) ?_; refine .x (OpSem.loadq rfl rfl rfl vs4 (rows_get (by omega) (by omega)) rfl) ?_; refine .x .nt ?_; refine .m ?_; refine .split (n := 71) rfl (fun c71 => ?_) (fun c71 => ?_)
          ·refine .gt c71 ?_; refine .m ?_; refine .gt c71 ?_; refine .m ?_; refine .gt c71 ?_; refine .x (.i es202) ?_; refine .gt c71 ?_; refine .x (.l1 vs4) ?_; refine .gt c71 ?_; refine .x .nt ?_; refine .x (OpSem.pickT rfl rfl c71 rfl) ?_; refine .sq <| .cond rfl (fun c77 => ?_) (fun c77 => ?_)
           ·have hsj : bfA (nth t.ops i).add z (bfP t u z x.1 i) (j + 1) = ((bfA (nth t.ops i).add z (bfP t u z x.1 i) j).1.set (nth (nth t.ops i).add j).toNat true, true) := by simp only [bfA]; rw [if_pos ⟨by simpa using c71, by simpa using c77⟩]
            refine .r <| .mm ?_; refine .x (OpSem.idxo rfl rfl rfl rfl es202 (by omega) (by simp; omega)) ?_; refine .storeq rfl rfl rfl rfl rfl rfl rfl vs4 (rows_get (by omega) (by omega)) (by simp) ?_; refine .a ?_; refine .n <| .n <| .y <| .x .ad ?_; refine .m ?_; refine .n <| .again (j + 1) (by omega) ?_ (by omega); exact .p3 <| .slot rfl (Le.bo (by rw [hsj])) <| .p5 <| .slot rfl (Le.of_eq (by simp)) <| .memEq rfl (by rw [hsj]; exact congrArg (Mo.own 1 4) (rows_set (f := fun b => [D.v (.bool b)]))) <| .nil
           ·have hsj : bfA (nth t.ops i).add z (bfP t u z x.1 i) (j + 1) = (bfA (nth t.ops i).add z (bfP t u z x.1 i) j) := by simp only [bfA]; rw [if_neg (fun h => by simp [h.2] at c77)]
            refine .p <| .n <| .y <| .x .ad ?_; refine .m ?_; refine .n <| .again (j + 1) (by omega) ?_ (by omega); exact .p3 <| .slot rfl (Le.bo (by rw [hsj])) <| .p5 <| .slot rfl (Le.of_eq (by simp)) <| .memEq rfl (by rw [hsj] <;> rfl) <| .nil
          ·have hsj : bfA (nth t.ops i).add z (bfP t u z x.1 i) (j + 1) = (bfA (nth t.ops i).add z (bfP t u z x.1 i) j) := by simp only [bfA]; rw [if_neg (fun h => by simp [h.1] at c71)]
           refine .gf c71 ?_; refine .gf c71 ?_; refine .gf c71 ?_; refine .gf c71 ?_; refine .gf c71 ?_; refine .x (OpSem.pickF rfl rfl c71 rfl) ?_; refine .sq <| .condF rfl rfl ?_; refine .p <| .n <| .y <| .x .ad ?_; refine .m ?_; refine .n <| .again (j + 1) (by omega) ?_ (by omega); exact .p3 <| .slot rfl (Le.bo (by rw [hsj])) <| .p5 <| .slot rfl (Le.of_eq (by simp)) <| .memEq rfl (by rw [hsj] <;> rfl) <| .nil
         ·have hj : j = (nth t.ops i).add.length := by simp at c63; omega
          subst hj
          refine .u <| .u <| .u <| .b <| .n <| .y <| .x .ad ?_; refine .m ?_; refine .n <| .again (i + 1) (by omega) ?_ (by omega); exact .p3 <| .slot rfl (Le.bo (by rw [hst])) <| .p2 <| .slot rfl (Le.of_eq (by simp)) <| .memEq rfl (by rw [hst] <;> rfl) <| .nil
      ·have hi : i = t.ops.length := by simp at c48; omega
       subst hi
       refine .u <| .u <| .u <| .b <| .n <| .again (bfP t u z x.1 t.ops.length) ⟨(bfP_p hV hC (Nat.le_refl _)).1, hI1, hI2⟩ ?_ (ps_lt (ps := (fun b => bfP t u z b t.ops.length)) (fun b hb => (bfP_p hV hb (Nat.le_refl _)).2) hC c40); exact .p3 <| .sl <| .memEq rfl rfl <| .nil
    ·have hW := hF c40
     refine .u <| .u <| .u <| .b <| .z <| .m ?_; refine .a ?_; exact .sq <| .t <| .retO2 rfl rfl rfl (by simp) (by rw [hW])
theorem lmcut_search_cut_does (t : Tsk) (s cs u : List Int) (hV : TskV t) (hu : (u.length : Int) = t.facts + 1) (hc : CsV t cs) (hs : ∀ p, p ∈ s → 0 ≤ p ∧ p < t.facts) (hsl : s.length ≤ 1000000) : Does Tryz.prog true 136 [.p [.v (.int .i64 t.facts), ints t.ini, ints t.goal, sopsD t.ops, ints s, ints cs, ints u]] (vecS (cutF t cs u (znW t cs u) (bfW t s u (znW t cs u)))) := by
 have hf0 := hV.facts
 have hol := hV.ops
 have hn := nF_eq t
 have hcl := hc.l
 have hzl := (zn_p (cs := cs) (u := u) hV).l
 have hbl := (bf_p (u := u) (z := (znW t cs u)) hV hs).l
 have hol := hV.ops
 refine Does.of_body Tryz.func136 rfl rfl (by simp) Tryz.call136 (fun w0 O0 => ?_); refine .g <| .r <| .al 2 zc226 ?_; refine .z <| .m ?_; refine .x (OpSem.call0 (lmcut_search_zone_does t s cs u hV hu hc).fresh rfl rfl rfl rfl (Les.refl _)) ?_; refine .a ?_; refine .z <| .mm ?_; refine .x (OpSem.call0 (lmcut_search_before_does t s cs u (znW t cs u) hV hu hs hsl hzl).fresh rfl rfl rfl rfl (Les.refl _)) ?_; refine .a ?_; refine .z <| .x (.bd pl226 zc226) ?_; refine .al 5 zc226 ?_; refine .sb vs226 ?_; refine .sq <| .g <| .g <| .ownNilBox 105 5 0 1 3 rfl rfl rfl ?_; refine .r <| .m ?_; refine .x (OpSem.nilp rfl rfl) ?_; refine .x (OpSem.fieldp rfl rfl fo224_0) ?_; refine .x (OpSem.fieldp rfl rfl fo43_3) ?_; refine .x (.l1 vs41) ?_; refine .x (.n es41) ?_; refine .m ?_; refine .sq <| .k <| .loop (X := Nat) (fun i => i ≤ t.ops.length) (fun i => [(0, .p [.v (.int .i64 t.facts), ints t.ini, ints t.goal, sopsD t.ops, ints s, ints cs, ints u]), (2, .r 2 0), (3, .d (bools (znW t cs u))), (4, .d (bools (bfW t s u (znW t cs u)))), (5, .r 5 0), (20, .d (sopsD t.ops)), (21, I (t.ops.length)), (22, I (i))]) (fun i => [(5, .box [.o 105, I ((cutT t cs u (znW t cs u) (bfW t s u (znW t cs u)) i).2)]), (105, .own 1 3 (((cutT t cs u (znW t cs u) (bfW t s u (znW t cs u)) i).1).map fun n => [D.v (.int .i64 n)])), (2, .box [.d (.v (.slice none 0 0)), I (0)])]) (fun i => t.ops.length - i) 0 (by omega) ?_ ?_
 ·exact .p5 <| .p2 <| .slot rfl (Le.of_eq (by simp)) <| .boxLe rfl (.cons (.refl _) <| .cons (Le.i rfl) <| .nil) <| .memEq rfl (by simp [cutT]) <| .mem rfl <| .nil
 ·rintro i hil
  refine .g <| .r <| .x (.b blss) ?_; refine .sq <| .g <| .cond rfl (fun c23 => ?_) (fun c23 => ?_)
  ·have hi : i < t.ops.length := by simpa using c23
   have hpre := (hV.op i hi).1.1
   have hadd := set_rng (hV.op i hi).1.2.1
   have hadl := setP_len (hV.op i hi).1.2.1 hf0.2
   have hhp := hd_in (u := u) hV hpre
   have hctl := cutT_le (t := t) (cs := cs) (u := u) (z := (znW t cs u)) (b := (bfW t s u (znW t cs u))) (k := i)
   refine .p <| .g <| .g <| .k <| .g <| .r <| .m ?_; refine .x (.i es41) ?_; refine .x (.lN vs75) ?_; refine .al 7 zc75 ?_; refine .a ?_; refine .sb vs75 ?_; refine .sq <| .g <| .g <| .r <| .mm ?_; refine .x (.f fo75_0) ?_; refine .x (.l vs22) ?_; refine .x (OpSem.call0 (lmcut_search_hardest_does t s cs u (nth t.ops i).pre hV hu hpre) rfl rfl rfl rfl (Les.refl _)) ?_; refine .x (.i es202) ?_; refine .x (.l1 vs4) ?_; refine .x .nt ?_; refine .sq <| .cond rfl (fun c34 => ?_) (fun c34 => ?_)
   ·have hst : (cutT t cs u (znW t cs u) (bfW t s u (znW t cs u)) (i + 1)) = (cutT t cs u (znW t cs u) (bfW t s u (znW t cs u)) i) := cut_f (fun h => by have := h.1; simp [this] at c34)
    refine .u <| .u <| .b <| .y <| .x .ad ?_; refine .m ?_; refine .n <| .again (i + 1) (by omega) ?_ (by omega); exact .p5 <| .p2 <| .slot rfl (Le.of_eq (by simp)) <| .boxLe rfl (.cons (.refl _) <| .cons (Le.i (by rw [hst])) <| .nil) <| .memEq rfl (by rw [hst] <;> rfl) <| .mem rfl <| .nil
   ·have hb0 : nth (bfW t s u (znW t cs u)) (hdF t.facts u (nth t.ops i).pre) = true := by simpa using c34
    refine .p <| .z <| .x (.f fo75_1) ?_; refine .x (.l vs22) ?_; refine .x (.n es22) ?_; refine .m ?_; refine .sq <| .k <| .loop (X := Nat) (fun j => j ≤ (nth t.ops i).add.length ∧ ∀ k : Nat, k < j → nth (znW t cs u) (nth (nth t.ops i).add k) = false) (fun j => [(0, .p [.v (.int .i64 t.facts), ints t.ini, ints t.goal, sopsD t.ops, ints s, ints cs, ints u]), (2, .r 2 0), (3, .d (bools (znW t cs u))), (4, .d (bools (bfW t s u (znW t cs u)))), (5, .r 5 0), (6, I (i)), (20, .d (sopsD t.ops)), (21, I (t.ops.length)), (22, I (i)), (36, .d (ints ((nth t.ops i).add))), (37, I (((nth t.ops i).add).length)), (38, I (j))]) (fun j => [(105, .own 1 3 (((cutT t cs u (znW t cs u) (bfW t s u (znW t cs u)) i).1).map fun n => [D.v (.int .i64 n)])), (2, .box [.d (.v (.slice none 0 0)), I (0)]), (5, .box [.o 105, I ((cutT t cs u (znW t cs u) (bfW t s u (znW t cs u)) i).2)])]) (fun j => (nth t.ops i).add.length - j) 0 ⟨by omega, fun k hk => by omega⟩ ?_ ?_
    ·exact .p5 <| .p5 <| .sl <| .slot rfl (Le.of_eq (by simp)) <| .all
    ·rintro j ⟨hjl, hno⟩
     refine .g <| .r <| .x (.b blss) ?_; refine .sq <| .g <| .cond rfl (fun c39 => ?_) (fun c39 => ?_)
     ·have hj : j < (nth t.ops i).add.length := by simpa using c39
      have hpj := hadd j hj
      refine .p <| .g <| .g <| .k <| .g <| .r <| .x (.i es22) ?_; refine .x (.l1 vs3) ?_; refine .a ?_; refine .z <| .mm ?_; refine .x (.i es202) ?_; refine .x (.l1 vs4) ?_; refine .sq <| .cond rfl (fun c45 => ?_) (fun c45 => ?_)
      ·have hst : (cutT t cs u (znW t cs u) (bfW t s u (znW t cs u)) (i + 1)) = _ := cut_t ⟨hb0, _, nth_mem (l := (nth t.ops i).add) (n := j) (by omega) (by omega), by simpa using c45⟩
       refine .g <| .r <| .x (.f fo226_0) ?_; refine .x (.l vs22) ?_; refine .m ?_; refine .x (.bs es22 ze22) ?_; refine .ap es22 el22 zc3 by3 ?_; refine .x (.f fo226_0) ?_; refine .sb vs22 ?_; refine .sq <| .g <| PC.start [] ?_; refine .x (.f fo226_1) ?_; refine .x (.l vs3) ?_; refine .m ?_; refine .x (OpSem.nilp rfl rfl) ?_; refine .x (OpSem.fieldp rfl rfl fo224_2) ?_; refine .x (.l1 vs22) ?_; refine .m ?_; refine .x (.i es22) ?_; refine .x (.l1 vs3) ?_; refine .x (OpSem.min2 rfl rfl rfl) ?_; refine .d0 mixed ?_; refine .x (.f fo226_1) ?_; refine .sb vs3 ?_; refine .sq <| .u <| .block_other (by decide) ?_; refine .u <| .u <| .b <| .n <| .y <| .x .ad ?_; refine .m ?_; refine .n <| .again (i + 1) (by omega) ?_ (by omega); exact .p5 <| .p2 <| .slot rfl (Le.of_eq (by simp)) <| .boxLe rfl (.cons (.refl _) <| .cons (Le.i (by rw [hst])) <| .nil) <| .memEq rfl (by rw [hst]; first | (simp; done) | (simp; rfl)) <| .mem rfl <| .nil
      ·have hb : nth (znW t cs u) (nth (nth t.ops i).add j) = false := by simpa using c45
       refine .p <| .n <| .y <| .x .ad ?_; refine .m ?_; refine .n <| .again (j + 1) ⟨by omega, all_succ hno hb⟩ ?_ (by omega); exact .p5 <| .p5 <| .sl <| .slot rfl (Le.of_eq (by simp)) <| .all
     ·have hj : j = (nth t.ops i).add.length := by simp at c39; omega
      have hst : (cutT t cs u (znW t cs u) (bfW t s u (znW t cs u)) (i + 1)) = (cutT t cs u (znW t cs u) (bfW t s u (znW t cs u)) i) := cut_f (fun h => cut_no (by subst hj; exact hno) h.2)
      refine .u <| .u <| .u <| .b <| .n <| .y <| .x .ad ?_; refine .m ?_; refine .n <| .again (i + 1) (by omega) ?_ (by omega); exact .p5 <| .p2 <| .slot rfl (Le.of_eq (by simp)) <| .boxLe rfl (.cons (.refl _) <| .cons (Le.i (by rw [hst])) <| .nil) <| .memEq rfl (by rw [hst] <;> rfl) <| .mem rfl <| .nil
  ·have hi : i = t.ops.length := by simp at c23; omega
   subst hi
   refine .u <| .u <| .u <| .b <| .z <| .x (.L vs226) ?_; refine .sb vs226 ?_; exact .sq <| .t <| .retG rfl rfl rfl vs226 rfl (by simp) rfl rfl
theorem lmcut_Find_does (t : Tsk) (s : List Int) (hV : TskV t) (hS : SetP t.facts s) : Does Tryz.prog false 119 [tskS t, .d (ints s)] (.t [.d (vecsD (fnW t s).1), I (fnW t s).2]) := by
 have hf0 := hV.facts
 have hol := hV.ops
 have hs : ∀ p, p ∈ s → 0 ≤ p ∧ p < t.facts := fun p hp => setP_mem hS hp
 have hsl := setP_len hS hf0.2
 refine Does.of_body Tryz.func119 rfl rfl (by simp) Tryz.call119 (fun w0 O0 => ?_); refine .lg 0 1 fun len0_1 => ?_; refine .lg 0 2 fun len0_2 => ?_; refine .lg 0 3 fun len0_3 => ?_; refine .le 1 fun len1 => ?_; refine .g <| .r <| .bx 2 ?_; refine .a ?_; refine .a ?_; refine .sq <| .g <| PC.start [] ?_; refine .x (.L vs43) ?_; refine .m ?_; refine .x (.L vs43) ?_; refine .semM (OpSem.callO 15 (relaxed_Costs_does t (by omega)) rfl rfl rfl rfl (Les.refl _)) rfl rfl ?_; refine .d1 15 (.own 1 3 ((cssF t).map fun n => [D.v (.int .i64 n)])) mixed ?_; refine .x (.bd pl224 zc224) ?_; refine .bx 17 ?_; refine .a ?_; refine .z <| .a ?_; refine .sq <| .g <| .ownNil (n := 7) 7 2 226 rfl ?_; refine .r <| .a ?_; refine .sq <| .k <| .loop (X := (List Int × List (List Int × Int) × Int)) (fun x => FnI t s x ∧ FnR t s x.1 x.2.1 x.2.2 (fnW t s)) (fun x => [(1, .d (ints s)), (2, .r 2 0), (6, .r 17 0), (7, .o 7), (8, I (x.2.2))]) (fun x => [(15, .own 1 3 (x.1.map fun n => [D.v (.int .i64 n)])), (17, .box [I (t.facts), .d (ints t.ini), .d (ints t.goal), .d (sopsD t.ops), .d (ints s), .o 15, .u]), (7, .own 2 226 (x.2.1.map vecC)), (2, .box [I (t.facts), .d (ints t.ini), .d (ints t.goal), .d (sopsD t.ops)])]) (fun x => x.1.sum.toNat) (cssF t, [], 0) ⟨fn_0 hV hs, fnW_ok hV hs⟩ ?_ ?_
 ·exact .p3 <| .sl <| .slot rfl (Le.of_eq rfl) <| .memEq rfl rfl <| .boxLe rfl (.cons (.refl _) <| .cons (.refl _) <| .cons (.refl _) <| .cons (.refl _) <| .cons (.refl _) <| .cons (.refl _) <| .cons (Le.u _) <| .nil) <| .memEq rfl (by simp) <| .mem rfl <| .nil
 ·rintro x ⟨hI, hr⟩
  refine .k <| .g ?_
  have hvl := hI.c.hm.vp.l
  have hul : ((exV (vM t s x.1)).length : Int) = t.facts + 1 := by simp; omega
  refine PC.start [] ?_; refine .m ?_; refine .x (.L vs43) ?_; refine .mm ?_; refine .x (OpSem.nilr rfl rfl) ?_; refine .x (.f fo224_2) ?_; refine .x (.l vs22) ?_; refine .semM (OpSem.callO 25 (relaxed_Values_does t s x.1 112 gmF (vM t s x.1) hV hI.c.cv gm_cmb hs (fun v f hv hf => relaxed_Greatest_does v f fun k hk => by have h1 := set_rng hf k hk; have h2 := hv.l; omega) (vlW_ok hV hI.c.cv gm_cmb hs)) rfl rfl rfl rfl (Les.refl _)) rfl rfl ?_; refine .x (.bs es22 ze22) ?_; refine .doneL1 9 0 25 (.own 1 3 ((vM t s x.1).map fun n => [D.v (.int .i64 n)])) mixed (by kernel_rfl) (by kernel_rfl) (by kernel_rfl) (by kernel_rfl) (by kernel_rfl) rfl rfl rfl rfl rfl (by repeat' (first | exact .nil | (apply DropR.hit; rfl) | (apply DropR.miss; rfl))) (by kernel_rfl) (by kernel_rfl) (by kernel_rfl) ?_ ?_
  ·refine .ap es22 el22 zc3 by3 ?_; refine .x (OpSem.nilr rfl rfl) ?_; refine .x (.f fo224_3) ?_; refine .sb vs22 ?_; refine .sq <| .g <| .g <| .memEq (h := 25) (m' := .own 1 3 ((exV (vM t s x.1)).map fun n => [D.v (.int .i64 n)])) rfl (by simp) ?_
   have hgg : gmF (exV (vM t s x.1)) t.goal = gM t s x.1 := gm_ex hvl hV.goal
   have hgr := hI.c.gr
   obtain ⟨hi1, hi2, hi3⟩ := hr.inv
   refine PC.start [] ?_; refine .m ?_; refine .x (OpSem.nilr rfl rfl) ?_; refine .x (.f fo224_3) ?_; refine .x (.l vs22) ?_; refine .x (.f fo43_2) ?_; refine .x (.l vs22) ?_; refine .d0 mixed ?_; refine .x (OpSem.call (relaxed_Greatest_does (exV (vM t s x.1)) t.goal (fun k hk => by have h1 := set_rng hV.goal k hk; omega)) (.inr rfl) rfl rfl rfl rfl (Les.refl _)) ?_; refine .sq <| .k <| .g <| .r <| .x (.b beql) ?_; refine .a ?_; refine .sq <| .cond rfl (fun c37 => ?_) (fun c37 => ?_)
   ·refine .g <| .freeze 7 rfl ?_; refine .r <| .mm ?_; refine .a ?_; refine .a ?_; exact .sq <| .t <| .k <| .t <| .k <| .t <| .k <| .ret rfl (.tmp rfl <| .tmp rfl <| .nil) rfl (Le.t (.cons (by rw [hi1 (by rw [← hgg]; simpa using c37)]; exact .refl _) <| .cons (Le.i (by rw [hi1 (by rw [← hgg]; simpa using c37)])) <| .nil))
   ·refine .g <| .r <| .x (.b beql) ?_; refine .a ?_; refine .sq <| .cond rfl (fun c41 => ?_) (fun c41 => ?_)
    ·refine .g <| .r <| .a ?_; refine .a ?_; exact .sq <| .t <| .k <| .t <| .k <| .t <| .k <| .ret rfl (.tmp rfl <| .tmp rfl <| .nil) rfl (Le.t (.cons (by rw [hi2 (by rw [← hgg]; simpa using c41)]; exact Le.nil 2) <| .cons (Le.i (by rw [hi2 (by rw [← hgg]; simpa using c41)])) <| .nil))
    ·refine .p <| .n <| .g <| .g ?_
     have g0 : gM t s x.1 ≠ 0 := by rw [← hgg]; simpa using c37
     have g1 : gM t s x.1 ≠ 1000000000 := by rw [← hgg]; simpa using c41
     obtain ⟨hN, hN2, hN3, hN4⟩ := hI.next g0 g1
     have hcl := hI.c.cv.l
     have hT := hI.T
     have hcs := hI.c.cv.sum
     have hTn := hI.n
     have hcrg := hI.c.crg
     have hccl : (cM t s x.1).1.length ≤ t.ops.length := cutT_le
     refine .r <| .m ?_; refine .x (OpSem.call (lmcut_search_cut_does t s x.1 (exV (vM t s x.1)) hV hul hI.c.cv hs hsl) (.inl rfl) rfl rfl rfl rfl (Les.refl _)) ?_; refine .al 9 zc226 ?_; refine .sb vs226 ?_; refine .sq <| .g <| .g <| .r <| .x (.f fo226_0) ?_; refine .x (.l vs22) ?_; refine .x (.n es22) ?_; refine .m ?_; refine .sq <| .k <| .loop (X := Nat) (fun k => k ≤ (cM t s x.1).1.length) (fun k => [(1, .d (ints s)), (2, .r 2 0), (6, .r 17 0), (7, .o 7), (8, I (x.2.2)), (9, .r 9 0), (46, .d (ints ((cM t s x.1).1))), (47, I (((cM t s x.1).1).length)), (48, I (k))]) (fun k => [(15, .own 1 3 ((csC x.1 (cM t s x.1).1 (cM t s x.1).2 k).map fun n => [D.v (.int .i64 n)])), (7, .own 2 226 (x.2.1.map vecC)), (2, .box [I (t.facts), .d (ints t.ini), .d (ints t.goal), .d (sopsD t.ops)]), (17, .box [I (t.facts), .d (ints t.ini), .d (ints t.goal), .d (sopsD t.ops), .d (ints s), .o 15, .o 25]), (9, .box [.d (ints ((cM t s x.1).1)), I ((cM t s x.1).2)])]) (fun k => (cM t s x.1).1.length - k) 0 (by omega) ?_ ?_
     ·exact .p5 <| .p3 <| .slot rfl (Le.of_eq (by simp)) <| .memEq rfl rfl <| .all
     ·rintro k hkl
      refine .g <| .r <| .x (.b blss) ?_; refine .sq <| .g <| .cond rfl (fun c49 => ?_) (fun c49 => ?_)
      ·have hk : k < (cM t s x.1).1.length := by simpa using c49
       have hck := hcrg _ (nth_mem (l := (cM t s x.1).1) (n := k) (by omega) (by omega))
       have hxr := csC_rng hI.c g0 g1 (k := k) (by omega) hck.1 hck.2
       refine .p <| .g <| .g <| .k <| .g <| .r <| .x (.i es22) ?_; refine .x (.l1 vs3) ?_; refine .a ?_; refine .sq <| PC.start [] ?_; refine .m ?_; refine .x (OpSem.nilr rfl rfl) ?_; refine .x (.f fo224_2) ?_; refine .x (.l vs22) ?_; refine .m ?_; refine .x (OpSem.idxo rfl rfl rfl rfl es22 (by omega) (by simp [csC_len]; omega)) ?_; refine .x (OpSem.loadq rfl rfl rfl vs3 (rows_get (by omega) (by rw [csC_len]; omega)) rfl) ?_; refine .x (.f fo226_1) ?_; refine .x (.l vs3) ?_; refine .x .su ?_; refine .d0 mixed ?_; refine .x (OpSem.idxo rfl rfl rfl rfl es22 (by omega) (by simp [csC_len]; omega)) ?_; refine .storeq rfl rfl rfl rfl rfl rfl rfl vs3 (rows_get (by omega) (by rw [csC_len]; omega)) (by simp) ?_; refine .n <| .n <| .y <| .x .ad ?_; refine .m ?_; refine .n <| .again (k + 1) (by omega) ?_ (by omega); exact .p5 <| .p3 <| .slot rfl (Le.of_eq (by simp)) <| .memEq rfl (by exact congrArg (Mo.own 1 3) (rows_set (f := fun n => [D.v (.int .i64 n)]))) <| .all
      ·have hk : k = (cM t s x.1).1.length := by simp at c49; omega
       subst hk
       refine .u <| .u <| .u <| .b <| .z <| .m ?_; refine .x (.L vs226) ?_; refine .x (.bs es173 ze173) ?_; refine .ap es173 el173 zc226 by226 ?_; refine .a ?_; refine .y <| .m ?_; refine .x (.f fo226_1) ?_; refine .x (.l vs3) ?_; refine .x .ad ?_; refine .a ?_; refine .n <| .n <| .again (csM t s x.1, x.2.1 ++ [cM t s x.1], x.2.2 + (cM t s x.1).2) ⟨hN, hi3 g0 g1⟩ ?_ hN2; exact .p5 <| .memEq rfl rfl <| .boxLe rfl (.cons (.refl _) <| .cons (.refl _) <| .cons (.refl _) <| .cons (.refl _) <| .cons (.refl _) <| .cons (.refl _) <| .cons (Le.u _) <| .nil) <| .memEq rfl (by simp) <| .mem rfl <| .nil
  ·refine .ap es22 el22 zc3 by3 ?_; refine .m ?_; refine .x (OpSem.nilr rfl rfl) ?_; refine .x (.f fo224_3) ?_; refine .sb vs22 ?_; refine .sq <| .g <| .g <| .memEq (h := 25) (m' := .own 1 3 ((exV (vM t s x.1)).map fun n => [D.v (.int .i64 n)])) rfl (by simp) ?_
   have hgg : gmF (exV (vM t s x.1)) t.goal = gM t s x.1 := gm_ex hvl hV.goal
   have hgr := hI.c.gr
   obtain ⟨hi1, hi2, hi3⟩ := hr.inv
   refine PC.start [] ?_; refine .m ?_; refine .x (OpSem.nilr rfl rfl) ?_; refine .x (.f fo224_3) ?_; refine .x (.l vs22) ?_; refine .x (.f fo43_2) ?_; refine .x (.l vs22) ?_; refine .d0 mixed ?_; refine .x (OpSem.call (relaxed_Greatest_does (exV (vM t s x.1)) t.goal (fun k hk => by have h1 := set_rng hV.goal k hk; omega)) (.inr rfl) rfl rfl rfl rfl (Les.refl _)) ?_; refine .sq <| .k <| .g <| .r <| .x (.b beql) ?_; refine .a ?_; refine .sq <| .cond rfl (fun c37 => ?_) (fun c37 => ?_)
   ·refine .g <| .freeze 7 rfl ?_; refine .r <| .mm ?_; refine .a ?_; refine .a ?_; exact .sq <| .t <| .k <| .t <| .k <| .t <| .k <| .ret rfl (.tmp rfl <| .tmp rfl <| .nil) rfl (Le.t (.cons (by rw [hi1 (by rw [← hgg]; simpa using c37)]; exact .refl _) <| .cons (Le.i (by rw [hi1 (by rw [← hgg]; simpa using c37)])) <| .nil))
   ·refine .g <| .r <| .x (.b beql) ?_; refine .a ?_; refine .sq <| .cond rfl (fun c41 => ?_) (fun c41 => ?_)
    ·refine .g <| .r <| .a ?_; refine .a ?_; exact .sq <| .t <| .k <| .t <| .k <| .t <| .k <| .ret rfl (.tmp rfl <| .tmp rfl <| .nil) rfl (Le.t (.cons (by rw [hi2 (by rw [← hgg]; simpa using c41)]; exact Le.nil 2) <| .cons (Le.i (by rw [hi2 (by rw [← hgg]; simpa using c41)])) <| .nil))
    ·refine .p <| .n <| .g <| .g ?_
     have g0 : gM t s x.1 ≠ 0 := by rw [← hgg]; simpa using c37
     have g1 : gM t s x.1 ≠ 1000000000 := by rw [← hgg]; simpa using c41
     obtain ⟨hN, hN2, hN3, hN4⟩ := hI.next g0 g1
     have hcl := hI.c.cv.l
     have hT := hI.T
     have hcs := hI.c.cv.sum
     have hTn := hI.n
     have hcrg := hI.c.crg
     have hccl : (cM t s x.1).1.length ≤ t.ops.length := cutT_le
     refine .r <| .m ?_; refine .x (OpSem.call (lmcut_search_cut_does t s x.1 (exV (vM t s x.1)) hV hul hI.c.cv hs hsl) (.inl rfl) rfl rfl rfl rfl (Les.refl _)) ?_; refine .al 9 zc226 ?_; refine .sb vs226 ?_; refine .sq <| .g <| .g <| .r <| .x (.f fo226_0) ?_; refine .x (.l vs22) ?_; refine .x (.n es22) ?_; refine .m ?_; refine .sq <| .k <| .loop (X := Nat) (fun k => k ≤ (cM t s x.1).1.length) (fun k => [(1, .d (ints s)), (2, .r 2 0), (6, .r 17 0), (7, .o 7), (8, I (x.2.2)), (9, .r 9 0), (46, .d (ints ((cM t s x.1).1))), (47, I (((cM t s x.1).1).length)), (48, I (k))]) (fun k => [(15, .own 1 3 ((csC x.1 (cM t s x.1).1 (cM t s x.1).2 k).map fun n => [D.v (.int .i64 n)])), (7, .own 2 226 (x.2.1.map vecC)), (2, .box [I (t.facts), .d (ints t.ini), .d (ints t.goal), .d (sopsD t.ops)]), (17, .box [I (t.facts), .d (ints t.ini), .d (ints t.goal), .d (sopsD t.ops), .d (ints s), .o 15, .o 25]), (9, .box [.d (ints ((cM t s x.1).1)), I ((cM t s x.1).2)])]) (fun k => (cM t s x.1).1.length - k) 0 (by omega) ?_ ?_
     ·exact .p5 <| .p3 <| .slot rfl (Le.of_eq (by simp)) <| .memEq rfl rfl <| .all
     ·rintro k hkl
      refine .g <| .r <| .x (.b blss) ?_; refine .sq <| .g <| .cond rfl (fun c49 => ?_) (fun c49 => ?_)
      ·have hk : k < (cM t s x.1).1.length := by simpa using c49
       have hck := hcrg _ (nth_mem (l := (cM t s x.1).1) (n := k) (by omega) (by omega))
       have hxr := csC_rng hI.c g0 g1 (k := k) (by omega) hck.1 hck.2
       refine .p <| .g <| .g <| .k <| .g <| .r <| .x (.i es22) ?_; refine .x (.l1 vs3) ?_; refine .a ?_; refine .sq <| PC.start [] ?_; refine .m ?_; refine .x (OpSem.nilr rfl rfl) ?_; refine .x (.f fo224_2) ?_; refine .x (.l vs22) ?_; refine .m ?_; refine .x (OpSem.idxo rfl rfl rfl rfl es22 (by omega) (by simp [csC_len]; omega)) ?_; refine .x (OpSem.loadq rfl rfl rfl vs3 (rows_get (by omega) (by rw [csC_len]; omega)) rfl) ?_; refine .x (.f fo226_1) ?_; refine .x (.l vs3) ?_; refine .x .su ?_; refine .d0 mixed ?_; refine .x (OpSem.idxo rfl rfl rfl rfl es22 (by omega) (by simp [csC_len]; omega)) ?_; refine .storeq rfl rfl rfl rfl rfl rfl rfl vs3 (rows_get (by omega) (by rw [csC_len]; omega)) (by simp) ?_; refine .n <| .n <| .y <| .x .ad ?_; refine .m ?_; refine .n <| .again (k + 1) (by omega) ?_ (by omega); exact .p5 <| .p3 <| .slot rfl (Le.of_eq (by simp)) <| .memEq rfl (by exact congrArg (Mo.own 1 3) (rows_set (f := fun n => [D.v (.int .i64 n)]))) <| .all
      ·have hk : k = (cM t s x.1).1.length := by simp at c49; omega
       subst hk
       refine .u <| .u <| .u <| .b <| .z <| .m ?_; refine .x (.L vs226) ?_; refine .x (.bs es173 ze173) ?_; refine .ap es173 el173 zc226 by226 ?_; refine .a ?_; refine .y <| .m ?_; refine .x (.f fo226_1) ?_; refine .x (.l vs3) ?_; refine .x .ad ?_; refine .a ?_; refine .n <| .n <| .again (csM t s x.1, x.2.1 ++ [cM t s x.1], x.2.2 + (cM t s x.1).2) ⟨hN, hi3 g0 g1⟩ ?_ hN2; exact .p5 <| .memEq rfl rfl <| .boxLe rfl (.cons (.refl _) <| .cons (.refl _) <| .cons (.refl _) <| .cons (.refl _) <| .cons (.refl _) <| .cons (.refl _) <| .cons (Le.u _) <| .nil) <| .memEq rfl (by simp) <| .mem rfl <| .nil
theorem lmcut_Cuts_does (t : Tsk) (s : List Int) : Does Tryz.prog false 87 [tskS t, .d (ints s)] (.t [.d (vecsD (cutW t s).1), I (cutW t s).2, flt (sttF t s)]) := by
 refine Does.of_body Tryz.func87 rfl rfl (by simp) Tryz.call87 (fun w0 O0 => ?_); refine .lg 0 1 fun len0_1 => ?_; refine .lg 0 2 fun len0_2 => ?_; refine .lg 0 3 fun len0_3 => ?_; refine .le 1 fun len1 => ?_; refine .g <| .r <| .bx 2 ?_; refine .a ?_; refine .a ?_; refine .al 6 zc32 ?_; refine .sq <| .g <| .g <| .r <| .x (.L vs43) ?_; refine .m ?_; refine .x (OpSem.call0 (strips_StateFault_does t s) rfl rfl rfl rfl (Les.refl _)) ?_; refine .al 7 zc32 ?_; refine .sb vs32 ?_; refine .z <| .x (.L vs32) ?_; refine .x (.bd pl32 zc32) ?_; refine .x (OpSem.neS2 rfl rfl rfl io32) ?_; refine .sq <| .cond rfl (fun c15 => ?_) (fun c15 => ?_)
 ·have hne : sttF t s ≠ (0, 0) := fun h => by simp [h] at c15
  refine .g <| PC.start [] ?_; refine .x (.L vs32) ?_; refine .x (OpSem.move (.inr rfl) rfl) ?_; refine .x (OpSem.move (.inr rfl) rfl) ?_; refine .d0 mixed ?_; refine .sb vs32 ?_; exact .sq <| .t <| .t <| .ret rfl (.tmp rfl <| .tmp rfl <| .cellN rfl rfl vs32 <| .nil) rfl (Le.t (.cons (by rw [cutW_1 hne]; exact Le.nil 2) <| .cons (Le.i (by rw [cutW_1 hne])) <| .cons (.refl _) <| .nil))
 ·have h0 : sttF t s = (0, 0) := pair0 (by simpa using c15)
  obtain ⟨hV, hS⟩ := sttF_ok h0
  refine .p <| .z <| .x (.L vs43) ?_; refine .m ?_; refine .x (OpSem.call0 (lmcut_Find_does t s hV hS) rfl rfl rfl rfl (Les.refl _)) ?_; refine .m ?_; refine .x .xt ?_; refine .x .xt ?_; refine .a ?_; refine .a ?_; refine .z <| .mm ?_; refine .x (.bd pl32 zc32) ?_; refine .a ?_; refine .a ?_; refine .sb vs32 ?_; exact .sq <| .t <| .ret rfl (.tmp rfl <| .tmp rfl <| .cellN rfl rfl vs32 <| .nil) rfl (Le.t (.cons (by rw [cutW_0 h0]; exact .refl _) <| .cons (Le.i (by rw [cutW_0 h0])) <| .cons (Le.flt h0.symm) <| .nil))
end Go.Proofs.YtgophedpkiidkaaGreat
end

section
namespace Go.Eng
abbrev Ds := List (Value × S)
def dsS (ds : Ds) : Kr := {
 q := fun O w _ => ∀ p, p ∈ ds → ∀ H, RepS O H w p.1 p.2
 mono := fun O w O' w' x hk h p hp H => (h p hp H).keeps hk }
def DsIn (M : Mem) (ds : Ds) : Prop := ∀ p, p ∈ ds → ∃ k ds0, look M k = some (.fr (dsS ds0)) ∧ p ∈ ds0
theorem DsIn.nil {M : Mem} : DsIn M [] := fun p hp => by cases hp
theorem DsIn.cons {M : Mem} {p : Value × S} {ds ds0 : Ds} (k : Nat) (h : look M k = some (.fr (dsS ds0))) (hs : p ∈ ds0) (t : DsIn M ds) : DsIn M (p :: ds) := fun q hq => by
 rcases List.mem_cons.1 hq with rfl | hq
 ·exact ⟨k, ds0, h, hs⟩
 ·exact t q hq
abbrev Res := Nat → HP
def fo (l : List HP) : Res := fun i => l.getD i noO
def resM : Nat → Nat → Res → Mem → Mem
 | 0, _, _, T => T
 | n + 1, i, F, T => (i, poM (F i)) :: resM n (i + 1) F T
def updM : List Nat → Res → Nat → Mem → Mem
 | [], _, _, M => M
 | h :: hs, F, i, M => (h, poM (F i)) :: updM hs F (i + 1) M
def HasM (M : Mem) : List Nat → Res → Nat → Prop
 | [], _, _ => True
 | h :: hs, F, i => look M h = some (poM (F i)) ∧ HasM M hs F (i + 1)
theorem HasM.get {M : Mem} {F : Res} : ∀ {hs : List Nat} {i : Nat}, HasM M hs F i → ∀ (j h : Nat), hs[j]? = some h → look M h = some (poM (F (i + j)))
 | [], _, _, j, h, e => by simp at e
 | h0 :: hs, i, hm, j, h, e => by
  cases j with
  | zero => simp at e; subst e; exact hm.1
  | succ j => have := HasM.get hm.2 j h (by simpa using e); rwa [Nat.add_assoc, Nat.add_comm 1 j] at this
theorem look_updM {F : Res} {M : Mem} {m : Mo} : ∀ {hs : List Nat} {i n : Nat}, look (updM hs F i M) n = some m → (∃ j : Nat, hs[j]? = some n ∧ m = poM (F (i + j))) ∨ ((∀ j : Nat, hs[j]? ≠ some n) ∧ look M n = some m)
 | [], i, n, h => .inr ⟨fun j => by simp, h⟩
 | h0 :: hs, i, n, h => by
  rcases look_cons h with ⟨rfl, rfl⟩ | ⟨hne, h⟩
  ·exact .inl ⟨0, by simp, by simp⟩
  ·rcases look_updM h with ⟨j, h1, h2⟩ | ⟨h1, h2⟩
   ·exact .inl ⟨j + 1, by simpa using h1, by rw [h2, Nat.add_assoc, Nat.add_comm 1 j]⟩
   ·refine .inr ⟨fun j => ?_, h2⟩
    cases j with
    | zero => simp; exact fun e => hne e.symm
    | succ j => simpa using h1 j
theorem look_resM {F : Res} {T : Mem} {m : Mo} : ∀ {n i k : Nat}, look (resM n i F T) k = some m → (∃ j, j < n ∧ k = i + j ∧ m = poM (F k)) ∨ look T k = some m
 | 0, i, k, h => .inr h
 | n + 1, i, k, h => by
  rcases look_cons h with ⟨rfl, rfl⟩ | ⟨_, h⟩
  ·exact .inl ⟨0, by omega, rfl, rfl⟩
  ·rcases look_resM h with ⟨j, h1, h2, h3⟩ | h
   ·exact .inl ⟨j + 1, by omega, by omega, h3⟩
   ·exact .inr h
def restK (Oc : Nat → Nat) (W : World) : Km := {
 q := fun O _ _ w h => ∀ b, b < W.heap.size → Oc b = 1000 → O b = h + 1 ∧ w.heap[b]? = W.heap[b]?
 mono := by
  intro O O' v B w w' h hk hq b hb hO
  obtain ⟨h1, h2⟩ := hq b hb hO
  obtain ⟨k1, k2⟩ := hk b (by
   rw [Array.getElem?_eq_getElem hb] at h2
   exact (Array.getElem?_eq_some_iff.1 h2).1) (.inr h1)
  exact ⟨k1.trans h1, k2.trans h2⟩ }
def Stays1 (O : Nat → Nat) (w : World) (O' : Nat → Nat) (w' : World) : Prop := ∀ b, b < w.heap.size → O b = 1000 → O' b = 1000 ∧ w'.heap[b]? = w.heap[b]?
structure DoesM (P : Program) (f : Nat) (args : List Value) (ds : Ds) (n : Nat) (F : Res) (R : Value → Res → Ds → Prop) : Prop where
 can : ∀ xs w, (callFunc f xs).run P w = .ok (.enter f xs) w
 live : (∀ i, i < n → F i = noO) ∨ ∀ v F' ds', R v F' ds' → ∃ i b j, i < n ∧ j < n ∧ F i b ≠ none ∧ F' j b ≠ none
 run : ∀ (O : Nat → Nat) (w : World), (∀ i, i < n → ∀ b x, F i b = some x → O b = i + 1 ∧ x.at w b) → (∀ p, p ∈ ds → ∀ H, RepS O H w p.1 p.2) → Calls P f args.toArray w fun en w' =>
  ∃ v F' ds' O', en = .returned v ∧ R v F' ds' ∧ (w'.os = w.os ∧ w'.tape = w.tape ∧ w'.output = w.output ∧ w.drawn ≤ w'.drawn) ∧ Keeps O w O' w' ∧ Stays1 O w O' w' ∧ (∀ i, i < n → ∀ b x, F' i b = some x → O' b = i + 1 ∧ x.at w' b) ∧ (∀ p, p ∈ ds' → ∀ H, RepS O' H w' p.1 p.2)
def RetM (Oc : Nat → Nat) (W : World) (n : Nat) (R : Value → Res → Ds → Prop) : Ending → World → Prop := fun en w' =>
 ∃ v F' ds' O', en = .returned v ∧ R v F' ds' ∧ (w'.os = W.os ∧ w'.tape = W.tape ∧ w'.output = W.output ∧ W.drawn ≤ w'.drawn) ∧ Keeps Oc W O' w' ∧ Stays1 Oc W O' w' ∧ (∀ i, i < n → ∀ b x, F' i b = some x → O' b = i + 1 ∧ x.at w' b) ∧ (∀ p, p ∈ ds' → ∀ H, RepS O' H w' p.1 p.2)
abbrev begM (n : Nat) (F : Res) (Oc : Nat → Nat) (W : World) (ds : Ds) : Mem := resM n 0 F [(999, .any (restK Oc W)), (1000, .fr (frK Oc W)), (1001, .fr (dsS ds))]
section
variable {P : Program} {N : Nat} {w0 : World} {O0 : Nat → Nat} {ops : Array Oper} {Q : Post} {e : Env} {M : Mem} {rest : List Oper} {B : Nat} {o : Oper} {s : S} {c : Code}
theorem MHold.move {O O' : Nat → Nat} {H : Nat → Value} {B : Nat} {w w' : World} {n : Nat} {m : Mo} (hm : MHold O H B w n m) (hk : Keeps O w O' w') (ho : ∀ b, b < w.heap.size → O b = n + 1 → O' b = O b ∧ w'.heap[b]? = w.heap[b]?) : MHold O' H B w' n m := by
 cases m with
 | gone => trivial
 | fr K => exact K.mono _ _ _ _ _ hk hm
 | any K => exact K.mono _ _ _ _ _ _ _ (fun b hb' hO => hO.elim (fun h0 => ⟨(hk b hb' h0).1.trans h0.symm, (hk b hb' h0).2⟩) (fun h1 => ho b hb' h1)) hm
 | own k' T' rows' =>
  rcases hm with ⟨h0, h1⟩ | ⟨b, cap, xs, hH, hB, hO, hb, hlc, hcm, hsz, hw, hc⟩
  ·exact .inl ⟨h0, h1⟩
  ·obtain ⟨g1, g2⟩ := ho b (Array.getElem?_eq_some_iff.1 hb).1 hO
   refine .inr ⟨b, cap, xs, hH, hB, g1.trans hO, g2.trans hb, hlc, hcm, hsz, hw, fun i r j d hi hj => ?_⟩
   obtain ⟨x, h1, h2, h3⟩ := hc i r j d hi hj
   exact ⟨x, h1, h2.mono hk, h3⟩
 | box cs =>
  obtain ⟨b, xs, T, hH, hB, hO, hb, hs, hc⟩ := hm
  obtain ⟨g1, g2⟩ := ho b (Array.getElem?_eq_some_iff.1 hb).1 hO
  refine ⟨b, xs, T, hH, hB, g1.trans hO, g2.trans hb, hs, fun i s hi => ?_⟩
  obtain ⟨x, h1, h2, h3⟩ := hc i s hi
  exact ⟨x, h1, h2.keeps hk, h3⟩
theorem begM_st {O : Nat → Nat} {w : World} {args : List Value} {ds : Ds} {n : Nat} {F : Res} (hv : ∀ i, i < n → ∀ b x, F i b = some x → O b = i + 1 ∧ x.at w b) (hd : ∀ p, p ∈ ds → ∀ H, RepS O H w p.1 p.2) (hlen : args.length ≤ N) :
  St N { w with heap := #[] } O (entry 0 (args.map fun v => S.d (.v v))) (begM n F O w ds) O (fun _ => undef) { tmps := args.toArray ++ Array.replicate (N - args.toArray.size) undef, defers := [] } w := by
 refine ⟨rfl, by simp; omega, ⟨rfl, rfl, rfl, Nat.zero_le _, fun k hk => absurd hk (Nat.not_lt_zero k), Nat.le_refl _⟩, fun b hb => absurd hb (Nat.not_lt_zero b), fun n s hs => ?_, fun k m hm => ?_⟩
 ·obtain ⟨_, hn⟩ := look_entry _ 0 n s hs
  simp only [Nat.sub_zero, List.getElem?_map, Option.map_eq_some_iff] at hn
  obtain ⟨v, hn, rfl⟩ := hn
  refine ⟨v, ?_, .d _ _ (.v _)⟩
  have hlt := (List.getElem?_eq_some_iff.1 hn).1
  rw [Array.getElem?_append_left (by simpa using hlt)]
  simpa using hn
 ·rcases look_resM hm with ⟨j, h1, h2, rfl⟩ | hm
  ·intro b x hF
   obtain ⟨g1, g2⟩ := hv k (by omega) b x hF
   exact ⟨Nat.zero_le _, g1, g2⟩
  ·rcases look_cons hm with ⟨rfl, rfl⟩ | ⟨_, hm⟩
   ·exact fun b _ h => ⟨h, rfl⟩
   rcases look_cons hm with ⟨rfl, rfl⟩ | ⟨_, hm⟩
   ·exact fun b _ h => ⟨h, rfl⟩
   ·rcases look_cons hm with ⟨rfl, rfl⟩ | ⟨_, hm⟩
    ·exact hd
    ·cases hm
theorem DoesM.of_body {f : Nat} {args : List Value} {ds : Ds} {n : Nat} {F : Res} {R : Value → Res → Ds → Prop} {fn : Func} {c : Code} (hf : P.funcs[f]? = some fn) (hb : fn.body = some c) (hN : fn.ntmps = N) (hlen : args.length ≤ N)
  (can : ∀ xs w, (callFunc f xs).run P w = .ok (.enter f xs) w) (live : (∀ i, i < n → F i = noO) ∨ ∀ v F' ds', R v F' ds' → ∃ i b j, i < n ∧ j < n ∧ F i b ≠ none ∧ F' j b ≠ none)
  (h : ∀ (Oc : Nat → Nat) (W : World), Tr P N { W with heap := #[] } Oc (entry 0 (args.map fun v => S.d (.v v))) (begM n F Oc W ds) c (bodyPost P fn (RetM Oc W n R))) : DoesM P f args ds n F R :=
 ⟨can, live, fun O w hv hd => (calls_of_wp hf hb (ww_wp (by rw [hN]; exact h O w O (fun _ => undef) _ w (begM_st hv hd hlen))))⟩
theorem retVal {O : Nat → Nat} {H : Nat → Value} {a : Act} {w : World} {fn : Func} {rs : List ResultVar} {l : List S} {v : Value} (hst : St N w0 O0 e M O H a w) (hres : fn.results.toList = rs) (hl : RetL P e M rs l) (hv : ∀ H, valS H 9 (one l) = some v) : (results fn a.tmps).run P w = .ok v w := by
 obtain ⟨vs, h1, h2, h3⟩ := hl.run hst
 have hrun : (results fn a.tmps).run P w = .ok (if h : vs.toArray.size = 1 then vs.toArray[0] else .tuple vs.toArray) w := by
  rw [results_rv, Array.mapM_eq_mapM_toList, hres]
  simp only [Sem.run_bind, Sem.run_map, h1, Result.andThen_ok, Sem.run_pure]
 have hrep : RepS O H w (if h : vs.toArray.size = 1 then vs.toArray[0] else .tuple vs.toArray) (one l) := by
  clear hrun hv hl h1
  cases l with
  | nil =>
   cases vs with
   | nil => simpa [one] using RepS.t (O := O) (H := H) (w := w) [] [] rfl h3
   | cons v vs => simp at h2
  | cons s l =>
   cases vs with
   | nil => simp at h2
   | cons v vs =>
    cases l with
    | nil =>
     cases vs with
     | nil => simpa [one] using h3 0 v s rfl rfl
     | cons v2 vs => simp at h2
    | cons s2 l =>
     cases vs with
     | nil => simp at h2
     | cons v2 vs => simpa [one] using RepS.t (O := O) (H := H) (w := w) (v :: v2 :: vs) (s :: s2 :: l) h2 h3
 rw [hrun, valS_rep 9 hrep (hv H)]
def upTo : Nat → List Nat := fun n => List.range n
theorem St.retM {O : Nat → Nat} {H : Nat → Value} {a : Act} {w W : World} {Oc : Nat → Nat} {n : Nat} {F' : Res} {ds' : Ds} {v : Value} {R : Value → Res → Ds → Prop} (hst : St N { W with heap := #[] } O0 e M O H a w) (hM : HasM M (upTo n) F' 0) (hd : DsIn M ds') (hZ : look M 999 = some (.any (restK Oc W))) (hK : look M 1000 = some (.fr (frK Oc W))) (hr : R v F' ds') : RetM Oc W n R (.returned v) w := by
 refine ⟨v, F', ds', O, rfl, hr, ⟨hst.bl.os, hst.bl.tape, hst.bl.output, hst.bl.drawn⟩, hst.mem 1000 _ hK, hst.mem 999 _ hZ, fun i hi b x hF => ?_, fun p hp H' => ?_⟩
 ·have := hst.mem i _ (by have := hM.get i i (by simp [upTo, hi]); rwa [Nat.zero_add] at this)
  exact (this b x hF).2
 ·obtain ⟨k, ds0, h1, h2⟩ := hd p hp
  exact hst.mem k _ h1 p h2 H'
theorem At.retM {Oc : Nat → Nat} {W : World} {n : Nat} {F' : Res} {ds' : Ds} {R : Value → Res → Ds → Prop} {fn : Func} {rs : List ResultVar} {l : List S} {x : Exit} {v : Value} (hx : x = .ret ∨ x = .normal) (hres : fn.results.toList = rs) (hl : RetL P e M rs l) (hv : ∀ H, valS H 9 (one l) = some v)
  (hM : HasM M (upTo n) F' 0) (hd : DsIn M ds') (hZ : look M 999 = some (.any (restK Oc W))) (hK : look M 1000 = some (.fr (frK Oc W))) (hr : R v F' ds') : At N { W with heap := #[] } O0 e M x (bodyPost P fn (RetM Oc W n R)) := by
 intro O H a w hst
 have key : a.defers = [] ∧ ∃ v, (results fn a.tmps).run P w = .ok v w ∧ RetM Oc W n R (.returned v) w := ⟨hst.df, v, retVal hst hres hl hv, hst.retM hM hd hZ hK hr⟩
 rcases hx with rfl | rfl <;> exact key
def distN : List Nat → Bool
 | [] => true
 | h :: hs => !(hs.any fun k => Nat.beq k h) && distN hs
theorem distN_get : ∀ {hs : List Nat}, distN hs = true → ∀ (i j h : Nat), hs[i]? = some h → hs[j]? = some h → i = j
 | [], _, i, j, h, hi, _ => by simp at hi
 | k :: hs, hd, i, j, h, hi, hj => by
  simp only [distN, Bool.and_eq_true, Bool.not_eq_true', List.any_eq_false] at hd
  cases i with
  | zero =>
   cases j with
   | zero => rfl
   | succ j =>
    simp at hi hj
    subst hi
    have := hd.1 k (List.mem_of_getElem? hj)
    simp at this
  | succ i =>
   cases j with
   | zero =>
    simp at hi hj
    subst hj
    have := hd.1 k (List.mem_of_getElem? hi)
    simp at this
   | succ j => exact congrArg (· + 1) (distN_get hd.2 i j h (by simpa using hi) (by simpa using hj))
theorem TrOps.callG {hs : List Nat} {kd d fn n : Nat} {args : List Value} {ds : Ds} {F : Res} {R : Value → Res → Ds → Prop} (hspec : DoesM P fn args ds n F R)
  (hrun : ∀ O H a w, St N w0 O0 e M O H a w → (execOp a.eval o).run P w = .ok (.enter fn args.toArray) w) (hgd : o.guard = none) (hd : o.dst = some d) (hdN : d < N) (hn' : hs.length = n) (hle : hs.length ≤ 900) (hdi : distN hs = true) (hM : HasM M hs F 0) (hkd : hs.all (fun h => !(Nat.beq h kd)) = true) (hds : DsIn M ds)
  (hc : ∀ v F' ds', R v F' ds' → TrOps P N w0 O0 ops Q ((d, .d (.v v)) :: e) ((kd, .fr (dsS ds')) :: updM hs F' 0 M) rest) : TrOps P N w0 O0 ops Q e M (o :: rest) := by
 classical
 intro O H a w hst
 refine wpList_plain hgd fun K hK => Oper.wp_false ?_ Q
 unfold Oper.wp
 rw [hrun O H a w hst]
 have hpin : ∀ i, i < n → ∀ b x, F i b = some x → w0.heap.size ≤ b ∧ O b = hs.getD i 0 + 1 ∧ x.at w b := fun i hi b x hF => by
  have hh : hs[i]? = some hs[i] := List.getElem?_eq_getElem (by omega)
  have := hM.get i _ hh
  rw [Nat.zero_add] at this
  have e1 : hs.getD i 0 = hs[i] := by simp [List.getD_eq_getElem?_getD, hh]
  rw [e1]
  exact hst.mem _ _ this b x hF
 have huni : ∀ i j b, i < n → j < n → F i b ≠ none → F j b ≠ none → i = j := fun i j b hi hj h1 h2 => by
  obtain ⟨x, hx⟩ := Option.ne_none_iff_exists'.1 h1
  obtain ⟨y, hy⟩ := Option.ne_none_iff_exists'.1 h2
  have g1 := (hpin i hi b x hx).2.1
  have g2 := (hpin j hj b y hy).2.1
  have e1 : hs[i]? = some (hs.getD i 0) := by simp [List.getD_eq_getElem?_getD, List.getElem?_eq_getElem (show i < hs.length by omega)]
  have e2 : hs[j]? = some (hs.getD i 0) := by
   have : hs.getD i 0 = hs.getD j 0 := by omega
   rw [this]; simp [List.getD_eq_getElem?_getD, List.getElem?_eq_getElem (show j < hs.length by omega)]
  exact distN_get hdi _ _ _ e1 e2
 obtain ⟨pin, hpd⟩ : ∃ pin : Nat → Prop, pin = fun b => ∃ i, i < n ∧ F i b ≠ none := ⟨_, rfl⟩
 obtain ⟨Oc, hOc⟩ : ∃ Oc : Nat → Nat, Oc = fun b => if pin b then (Classical.epsilon fun i => i < n ∧ F i b ≠ none) + 1 else if O b = 0 then 0 else 1000 := ⟨_, rfl⟩
 have hOcP : ∀ i b, i < n → F i b ≠ none → Oc b = i + 1 := fun i b hi hb => by
  have hex : ∃ i, i < n ∧ F i b ≠ none := ⟨i, hi, hb⟩
  have hs := Classical.epsilon_spec hex
  rw [hOc]; simp only []
  rw [if_pos (by rw [hpd]; exact hex), huni _ i b hs.1 hi hs.2 hb]
 have hOcN : ∀ b, ¬ pin b → Oc b = if O b = 0 then 0 else 1000 := fun b hb => by
  rw [hOc]; simp only []
  rw [if_neg hb]
 have hpb : ∀ b, pin b → w0.heap.size ≤ b ∧ O b ≠ 0 ∧ b < w.heap.size ∧ Oc b ≠ 0 := fun b hb => by
  rw [hpd] at hb
  obtain ⟨i, hi, hb⟩ := hb
  obtain ⟨x, hx⟩ := Option.ne_none_iff_exists'.1 hb
  obtain ⟨g1, g2, g3⟩ := hpin i hi b x hx
  exact ⟨g1, by omega, OB.lt g3, by rw [hOcP i b hi hb]; omega⟩
 have hk1 : Keeps O w Oc w := fun b _ h0 => ⟨by
  rw [hOcN b (fun hp => (hpb b hp).2.1 h0), if_pos h0], rfl⟩
 refine (hspec.run Oc w (fun i hi b x hF => ⟨hOcP i b hi (by rw [hF]; simp), (hpin i hi b x hF).2.2⟩) (fun p hp H' => by
  obtain ⟨k, ds0, h1, h2⟩ := hds p hp
  exact (hst.mem k _ h1 p h2 H').keeps hk1)).mono ?_
 rintro en w' ⟨v, F', ds', O', rfl, hR, ⟨hos, htp, hout, hdrw⟩, hkp, hsy, hp', hds'⟩
 have hkeep : ∀ b, b < w.heap.size → ¬ pin b → w'.heap[b]? = w.heap[b]? ∧ (O' b = 0 → O b = 0) := fun b hb hn => by
  by_cases h0 : O b = 0
  ·exact ⟨(hkp b hb (by rw [hOcN b hn, if_pos h0])).2, fun _ => h0⟩
  ·obtain ⟨g1, g2⟩ := hsy b hb (by rw [hOcN b hn, if_neg h0])
   exact ⟨g2, fun e => by omega⟩
 obtain ⟨O2, hO2⟩ : ∃ O2 : Nat → Nat, O2 = fun b => if b < w.heap.size ∧ ¬ pin b then O b else if O' b = 0 then 0 else hs.getD (O' b - 1) 1000000000 + 1 := ⟨_, rfl⟩
 have hO2n : ∀ b, b < w.heap.size → ¬ pin b → O2 b = O b := fun b hb hn => by
  rw [hO2]; simp only []
  rw [if_pos ⟨hb, hn⟩]
 have hO2p : ∀ i, i < n → ∀ b x, F' i b = some x → O2 b = hs.getD i 0 + 1 ∧ w0.heap.size ≤ b := fun i hi b x hF => by
  obtain ⟨g1, g2⟩ := hp' i hi b x hF
  have hnn : ¬ (b < w.heap.size ∧ ¬ pin b) := fun ⟨hb, hn⟩ => by
   by_cases h0 : O b = 0
   ·have := (hkp b hb (by rw [hOcN b hn, if_pos h0])).1; omega
   ·have := (hsy b hb (by rw [hOcN b hn, if_neg h0])).1
    have hlen : n ≤ 900 := by rw [← hn']; exact hle
    omega
  refine ⟨?_, ?_⟩
  ·rw [hO2]; simp only []
   rw [if_neg hnn, if_neg (by omega), g1]
   simp [List.getD_eq_getElem?_getD, List.getElem?_eq_getElem (show i < hs.length by omega)]
  ·rcases Nat.lt_or_ge b w.heap.size with h | h
   ·exact (hpb b (Classical.byContradiction fun hn => hnn ⟨h, hn⟩)).1
   ·have := hst.size; omega
 have hk2 : Keeps O w O2 w' := fun b hb h0 => by
  have hn : ¬ pin b := fun hp => (hpb b hp).2.1 h0
  exact ⟨(hO2n b hb hn).trans h0, (hkeep b hb hn).1⟩
 have hk3 : Keeps O' w' O2 w' := fun b hb h0 => ⟨by
  rw [hO2]; simp only []
  split
  ·rename_i hh; exact (hkeep b hh.1 hh.2).2 h0
  ·first | rfl | rw [if_pos h0], rfl⟩
 have hsz0 := hst.size
 have hlow : ∀ b, b < w0.heap.size → ¬ pin b := fun b hb hp => by have := (hpb b hp).1; omega
 have hsz' : w0.heap.size ≤ w'.heap.size := by
  rcases hspec.live with hl | hl
  ·rcases Nat.eq_zero_or_pos w0.heap.size with h0 | h0
   ·omega
   ·have hlt : w0.heap.size - 1 < w.heap.size := by omega
    have := (hkeep (w0.heap.size - 1) hlt (hlow _ (by omega))).1
    rw [Array.getElem?_eq_getElem hlt] at this
    have := (Array.getElem?_eq_some_iff.1 this).1
    omega
  ·obtain ⟨i, b, j, hi, hj, h1, h2⟩ := hl v F' ds' hR
   obtain ⟨x, hx⟩ := Option.ne_none_iff_exists'.1 h1
   obtain ⟨y, hy⟩ := Option.ne_none_iff_exists'.1 h2
   have g1 := (hpin i hi b x hx).1
   have g2 := OB.lt (hp' j hj b y hy).2
   omega
 refine hK _ _ (hc v F' ds' hR O2 H _ _ ⟨?_, ?_, ?_, ?_, ?_, fun m mo hm => ?_⟩)
 ·rw [hd]; exact hst.df
 ·rw [hd]; simp [Act.put, hst.sz]
 ·exact ⟨hos.trans hst.bl.os, htp.trans hst.bl.tape, hout.trans hst.bl.output, hsz', fun b hb => (hkeep b (by omega) (hlow b hb)).1.trans (hst.bl.block b hb), Nat.le_trans hst.bl.drawn hdrw⟩
 ·exact fun b hb => (hO2n b (by omega) (hlow b hb)).trans (hst.lab b hb)
 ·rw [hd]
  exact put_slots hst.sz hdN (.d _ _ (.v _)) fun n s hs => by
   obtain ⟨y, hy, hr⟩ := hst.slots n s hs
   exact ⟨y, hy, hr.keeps hk2⟩
 ·rcases look_cons hm with ⟨rfl, rfl⟩ | ⟨hne, hm⟩
  ·exact fun p hp H' => (hds' p hp H').keeps hk3
  ·rcases look_updM hm with ⟨j, h1, rfl⟩ | ⟨h1, hm⟩
   ·have hj : j < n := by have := (List.getElem?_eq_some_iff.1 h1).1; omega
    rw [Nat.zero_add]
    intro b x hF
    obtain ⟨g1, g2⟩ := hO2p j hj b x hF
    have e1 : hs.getD j 0 = m := by simp [List.getD_eq_getElem?_getD, h1]
    exact ⟨g2, by rw [g1, e1], (hp' j hj b x hF).2⟩
   ·refine (hst.mem m mo hm).move hk2 fun b hb hO => ?_
    have hn : ¬ pin b := fun hp => by
     rw [hpd] at hp
     obtain ⟨i, hi, hb'⟩ := hp
     obtain ⟨x, hx⟩ := Option.ne_none_iff_exists'.1 hb'
     have := (hpin i hi b x hx).2.1
     exact h1 i (by
      have e1 : hs.getD i 0 = m := by omega
      rw [← e1]; simp [List.getD_eq_getElem?_getD, List.getElem?_eq_getElem (show i < hs.length by omega)])
    exact ⟨hO2n b hb hn, (hkeep b hb hn).1⟩
end
end Go.Eng
end

section
namespace Go.Eng
def anyS : S → Bool
 | .d _ | .p _ => true
 | _ => false
theorem anyS_rep {O : Nat → Nat} {H H' : Nat → Value} {w : World} {v : Value} {s : S} (hs : anyS s = true) (h : RepS O H w v s) : RepS O H' w v s := by
 cases h <;> first | (simp [anyS] at hs; done) | skip
 case d y h => exact .d _ _ h
 case p b off cs y hO hy hr => exact .p b off cs y hO hy hr
section
variable {P : Program} {N : Nat} {w0 : World} {O0 : Nat → Nat} {ops : Array Oper} {Q : Post} {e : Env} {M : Mem} {rest : List Oper} {B : Nat} {o : Oper} {s : S} {c : Code}
theorem TrOps.toDat (n k : Nat) {v : Value} {s : S} {ds : Ds} (hn : look e n = some (.d (.v v))) (hM : look M k = some (.fr (dsS ds))) (hp : (v, s) ∈ ds) (hc : TrOps P N w0 O0 ops Q ((n, s) :: e) M rest) : TrOps P N w0 O0 ops Q e M rest := by
 intro O H a w hst
 refine hc O H a w ⟨hst.df, hst.sz, hst.bl, hst.lab, fun m s' hs => ?_, hst.mem⟩
 rcases look_cons hs with ⟨rfl, rfl⟩ | ⟨_, hs⟩
 ·obtain ⟨x, hx, hr⟩ := hst.slots _ _ hn
  exact ⟨x, hx, by rw [rep_v hr]; exact hst.mem k _ hM _ hp H⟩
 ·exact hst.slots m s' hs
theorem TrOps.rawS (n k : Nat) {s : S} (hn : look e n = some s) (hs : anyS s = true) (hc : ∀ v : Value, TrOps P N w0 O0 ops Q ((n, .d (.v v)) :: e) ((k, .fr (dsS [(v, s)])) :: M) rest) : TrOps P N w0 O0 ops Q e M rest := by
 intro O H a w hst
 obtain ⟨x, hx, hr⟩ := hst.slots _ _ hn
 refine hc x O H a w ⟨hst.df, hst.sz, hst.bl, hst.lab, fun m s' hs' => ?_, fun m mo hm => ?_⟩
 ·rcases look_cons hs' with ⟨rfl, rfl⟩ | ⟨_, hs'⟩
  ·exact ⟨x, hx, .d _ _ (.v _)⟩
  ·exact hst.slots m s' hs'
 ·rcases look_cons hm with ⟨rfl, rfl⟩ | ⟨_, hm⟩
  ·exact fun p hp H' => by
    simp only [List.mem_singleton] at hp
    subst hp; exact anyS_rep hs hr
  ·exact hst.mem m mo hm
theorem TrOps.addNo (h : Nat) (hc : TrOps P N w0 O0 ops Q e ((h, poM noO) :: M) rest) : TrOps P N w0 O0 ops Q e M rest := fun O H a w hst =>
 hc O H a w ⟨hst.df, hst.sz, hst.bl, hst.lab, hst.slots, fun m mo hm => by
  rcases look_cons hm with ⟨rfl, rfl⟩ | ⟨_, hm⟩
  ·exact fun b x hF => by cases hF
  ·exact hst.mem m mo hm⟩
theorem TrOps.poEq (h : Nat) {F F' : HP} (hM : look M h = some (poM F)) (he : F = F') (hc : TrOps P N w0 O0 ops Q e ((h, poM F') :: M) rest) : TrOps P N w0 O0 ops Q e M rest := by
 subst he
 exact fun O H a w hst => hc O H a w ⟨hst.df, hst.sz, hst.bl, hst.lab, hst.slots, fun m mo hm => by
  rcases look_cons hm with ⟨rfl, rfl⟩ | ⟨_, hm⟩
  ·exact hst.mem _ _ hM
  ·exact hst.mem m mo hm⟩
theorem TrOps.pinB (h n : Nat) {vs : List Value} {ss : List S} (hn : look e n = some (.r h 0)) (hM : look M h = some (.box ss)) (hss : ss = vs.map fun v => .d (.v v)) (hc : ∀ b T, TrOps P N w0 O0 ops Q ((n, .d (.v (ptr b 0))) :: e) ((h, poM (oneO b (.c T vs))) :: M) rest) : TrOps P N w0 O0 ops Q e M rest := by
 subst hss
 intro O H a w hst
 obtain ⟨b, xs, T, hH, hB, hO, hb, hsz, hcc⟩ := hst.mem h _ hM
 have hxs : xs = vs.toArray := by
  apply Array.ext'
  refine List.ext_getElem (by simpa using hsz) fun i g1 g2 => ?_
  obtain ⟨x, hx, hr, _⟩ := hcc i (.d (.v vs[i])) (by simp [List.getElem?_eq_getElem (show i < vs.length by simpa using g2)])
  have := rep_v hr
  simp only [Array.getElem_toList] at *
  rw [← this]
  exact (Array.getElem?_eq_some_iff.1 hx).2
 refine hc b T O H a w ⟨hst.df, hst.sz, hst.bl, hst.lab, fun m s' hs => ?_, fun m mo hm => ?_⟩
 ·rcases look_cons hs with ⟨rfl, rfl⟩ | ⟨_, hs⟩
  ·obtain ⟨x, hx, hr⟩ := hst.slots _ _ hn
   refine ⟨x, hx, ?_⟩
   generalize hz : S.r h 0 = z at hr
   cases hr <;> try (cases hz; done)
   case r b' k hH' =>
    cases hz
    rw [hH] at hH'
    cases hH'
    exact .d _ _ (.v _)
  ·exact hst.slots m s' hs
 ·rcases look_cons hm with ⟨rfl, rfl⟩ | ⟨_, hm⟩
  ·intro b' x hF
   obtain ⟨rfl, rfl⟩ := oneO_ne hF
   exact ⟨hB, hO, by rw [hxs] at hb; exact hb⟩
  ·exact hst.mem m mo hm
theorem OpSem.mkFw {fn : Nat} {ys : Array Operand} {cs : List S} {vs : List Value} (ho : o.op = .makeFunc (.func fn) #[] ys) (hy : opsS e ys.toList = some cs) (hv : ∀ H, cs.mapM (valS H 9) = some vs) : OpSem P B o e M (.d (.v (.func (.func fn) #[] vs.toArray))) none :=
 .value fun O H a w hs hm => by
  have he := argsEq (a := a) (O := O) (H := H) (w := w) (as_ := ys) (fun x hx s hs' => hs x (by simp only [ho, Op.operands]; simpa using hx) s hs') hy (hv H)
  refine ⟨.func (.func fn) #[] vs.toArray, ?_, .d _ _ (.v _)⟩
  have h2 : ys.map a.eval = vs.toArray := by rw [← he]; apply Array.ext'; simp
  simp [execOp, ho, Instr.makeFunc, h2]
theorem OpSem.mkI {t : TypeId} {x : Operand} {v : Value} (ho : o.op = .makeInterface t x) (hx : opS e x = some (.d (.v v))) (ht : (match P.underlying t with | some (.interface _) => false | some _ => true | none => false) = true) : OpSem P B o e M (.d (.v (.iface t v))) none :=
 .value fun O H a w hs _ => by
  have hr := rep_v (hs x (by simp [ho, Op.operands]) _ hx)
  refine ⟨.iface t v, ?_, .d _ _ (.v _)⟩
  cases hu : P.underlying t with
  | none => simp [hu] at ht
  | some u => cases u <;> simp only [hu] at ht <;> first | (cases ht; done) | simp [execOp, ho, hr, Instr.makeInterface, run_underlying hu]
theorem OpSem.asI {xt t : TypeId} {x : Operand} {v : Value} (ho : o.op = .typeAssert x xt t false) (hx : opS e x = some (.d (.v (.iface t v)))) (ht : (match P.underlying t with | some (.interface _) => false | some _ => true | none => false) = true) : OpSem P B o e M (.d (.v v)) none :=
 .value fun O H a w hs _ => by
  have hr := rep_v (hs x (by simp [ho, Op.operands]) _ hx)
  refine ⟨v, ?_, .d _ _ (.v _)⟩
  cases hu : P.underlying t with
  | none => simp [hu] at ht
  | some u => cases u <;> simp only [hu] at ht <;> first | (cases ht; done) | simp [execOp, ho, hr, Instr.typeAssert, run_underlying hu]
theorem OpSem.sliceO {t k b len cap : Nat} {x hi : Operand} {kk : IntKind} {n : Int} (ho : o.op = .slice t x none (some hi) none) (hx : opS e x = some (.d (.v (slc b len cap)))) (hi' : opS e hi = some (.d (.v (.int kk n)))) (ht : esz P t = some k) (h0 : 0 ≤ n) (h1 : n ≤ cap) :
  OpSem P B o e M (.d (.v (slc b n.toNat cap))) none :=
 .value fun O H a w hs _ => by
  have hr := rep_v (hs x (by simp [ho, Op.operands]) _ hx)
  have hz := rep_v (hs hi (by simp [ho, Op.operands]) _ hi')
  refine ⟨slc b n.toNat cap, ?_, .d _ _ (.v _)⟩
  have := run_slice_h (P := P) w t (some ⟨b, 0, none⟩) len cap (esz_spec ht).1 kk n h0 (by omega)
  simp only [execOp, ho, hr, hz, Option.map_some, Option.map_none, Sem.run_bind, run_sliceAt_slice w t _ _ _ _ (esz_spec ht).1, this, run_sizeElem ht, Result.andThen_ok, Sem.run_pure]
  simp [sliced, Addr.add_lit]
theorem TrOps.makeMapO {t d : Nat} (h : Nat) (ho : o.op = .makeMap t none) (hg : o.guard = none) (hd : o.dst = some d) (hdN : d < N) (hc : ∀ b, TrOps P N w0 O0 ops Q ((d, .d (.v (.map (some b)))) :: e) ((h, poM (oneO b (.m []))) :: M) rest) : TrOps P N w0 O0 ops Q e M (o :: rest) := by
 intro O H a w hst
 refine wpList_plain hg fun K hK => ?_
 unfold Oper.wp
 simp only [execOp, ho, Option.map_none, Go.RowKit.run_makeMap, Sem.run_bind, Sem.run_pure, Result.andThen_ok, Oper.upon_value]
 obtain ⟨O', hO'⟩ : ∃ O' : Nat → Nat, O' = fun b => if b = w.heap.size then h + 1 else O b := ⟨_, rfl⟩
 have hk : Keep none none O H w O' H (w.alloc (.map #[] 0)) := ⟨fun b hb => by rw [hO']; simp [Nat.ne_of_lt hb], fun b hb _ => heap_alloc_old w _ hb, fun _ _ => rfl⟩
 have hsz := hst.size
 refine hK _ _ (hc w.heap.size O' H _ _ ⟨?_, ?_, hst.bl.trans ⟨rfl, rfl, rfl, by simp, fun b hb => heap_alloc_old w _ (by omega), Nat.le_refl _⟩, fun b hb => (hk.lab b (by omega)).trans (hst.lab b hb), ?_, fun m mo hm => ?_⟩)
 ·rw [hd]; exact hst.df
 ·rw [hd]; simp [Act.put, hst.sz]
 ·rw [hd]
  exact put_slots hst.sz hdN (.d _ _ (.v _)) fun n s hs => by
   obtain ⟨y, hy, hr⟩ := hst.slots n s hs
   exact ⟨y, hy, hr.mono0 hk⟩
 ·rcases look_cons hm with ⟨rfl, rfl⟩ | ⟨_, hm⟩
  ·intro b x hF
   obtain ⟨rfl, rfl⟩ := oneO_ne hF
   exact ⟨hsz, by rw [hO']; simp, #[], 0, heap_alloc_new w _, rfl⟩
  ·exact (hst.mem m mo hm).mono hk (by simp) (by simp) 0 (fun h he => by cases he) (.inl rfl)
theorem TrOps.callM {hs : List Nat} {kd d fn n : Nat} {g : Operand} {as_ : Array Operand} {ts : Array TypeId} {args : List Value} {ds : Ds} {F : Res} {R : Value → Res → Ds → Prop} {l : List S} (hspec : DoesM P fn args ds n F R)
  (ho : o.op = .call { callee := .value g, args := as_, argTypes := ts }) (hgd : o.guard = none) (hd : o.dst = some d) (hdN : d < N) (hg : opS e g = some (.f fn [] [])) (ha : opsS e as_.toList = some l) (hv : ∀ H, l.mapM (valS H 9) = some args) (hn : hs.length = n) (hle : hs.length ≤ 900) (hdi : distN hs = true) (hM : HasM M hs F 0) (hds : DsIn M ds)
  (hc : ∀ v F' ds', R v F' ds' → TrOps P N w0 O0 ops Q ((d, .d (.v v)) :: e) ((kd, .fr (dsS ds')) :: updM hs F' 0 M) rest) (hkd : hs.all (fun h => !(Nat.beq h kd)) = true) : TrOps P N w0 O0 ops Q e M (o :: rest) :=
 .callG hspec (fun O H a w hst => by
  have hg' : a.eval g = .func (.func fn) #[] #[] := valS_rep 9 (hst.slotsAt #[g] g (by simp) _ hg) rfl
  exact run_callW hspec.can ho hg' (argsEq (O := O) (H := H) (w := w) (fun x hx s hs' => hst.slotsAt as_ x hx s hs') ha (hv H))) hgd hd hdN hn hle hdi hM hkd hds hc
theorem TrOps.callC {hs : List Nat} {kd d fn n : Nat} {g : Operand} {as_ : Array Operand} {ts : Array TypeId} {args caps : List Value} {ds : Ds} {F : Res} {R : Value → Res → Ds → Prop} {l : List S} (hspec : DoesM P fn (args ++ caps) ds n F R)
  (ho : o.op = .call { callee := .value g, args := as_, argTypes := ts }) (hgd : o.guard = none) (hd : o.dst = some d) (hdN : d < N) (hg : opS e g = some (.d (.v (.func (.func fn) #[] caps.toArray)))) (ha : opsS e as_.toList = some l) (hv : ∀ H, l.mapM (valS H 9) = some args) (hn : hs.length = n) (hle : hs.length ≤ 900) (hdi : distN hs = true) (hM : HasM M hs F 0) (hds : DsIn M ds)
  (hc : ∀ v F' ds', R v F' ds' → TrOps P N w0 O0 ops Q ((d, .d (.v v)) :: e) ((kd, .fr (dsS ds')) :: updM hs F' 0 M) rest) (hkd : hs.all (fun h => !(Nat.beq h kd)) = true) : TrOps P N w0 O0 ops Q e M (o :: rest) :=
 .callG hspec (fun O H a w hst => by
  have hg' := rep_v (hst.slotsAt #[g] g (by simp) _ hg)
  exact run_call (o := o) (xs := []) hspec.can a w g as_ ts ho (by rw [hg']) (argsEq (O := O) (H := H) (w := w) (fun x hx s hs' => hst.slotsAt as_ x hx s hs') ha (hv H))) hgd hd hdN hn hle hdi hM hkd hds hc
theorem run_inv {a : Act} {w : World} {x : Operand} {name : String} {as_ : Array Operand} {ts : Array TypeId} {t : TypeId} {v : Value} {ys : List Value} (ho : o.op = .call { callee := .invoke x name, args := as_, argTypes := ts }) (hx : a.eval x = .iface t v) (ha : as_.toList.map a.eval = ys) :
  (execOp a.eval o).run P w = (callMethod (.iface t v) name ys.toArray).run P w := by
 have h1 : as_.map a.eval = ys.toArray := by rw [← ha]; apply Array.ext'; simp
 have h2 : (#[Value.iface t v] ++ ys.toArray).extract 1 (#[Value.iface t v] ++ ys.toArray).size = ys.toArray := by simp
 have h3 : (#[Value.iface t v] ++ ys.toArray)[0]? = some (.iface t v) := by simp
 simp only [execOp, ho, resolve, hx, h1, Sem.run_bind, Sem.run_pure, Result.andThen_ok, invoke, h3, h2]
theorem TrOps.callI {hs : List Nat} {kd d fn n : Nat} {x : Operand} {name : String} {as_ : Array Operand} {ts : Array TypeId} {t : TypeId} {v0 : Value} {args : List Value} {ds : Ds} {F : Res} {R : Value → Res → Ds → Prop} {l : List S} (hspec : DoesM P fn (v0 :: args) ds n F R)
  (hcm : ∀ v xs w, (callMethod (.iface t v) name xs).run P w = (callFunc fn (#[v] ++ xs)).run P w)
  (ho : o.op = .call { callee := .invoke x name, args := as_, argTypes := ts }) (hgd : o.guard = none) (hd : o.dst = some d) (hdN : d < N) (hx : opS e x = some (.d (.v (.iface t v0)))) (ha : opsS e as_.toList = some l) (hv : ∀ H, l.mapM (valS H 9) = some args) (hn : hs.length = n) (hle : hs.length ≤ 900) (hdi : distN hs = true) (hM : HasM M hs F 0) (hds : DsIn M ds)
  (hc : ∀ v F' ds', R v F' ds' → TrOps P N w0 O0 ops Q ((d, .d (.v v)) :: e) ((kd, .fr (dsS ds')) :: updM hs F' 0 M) rest) (hkd : hs.all (fun h => !(Nat.beq h kd)) = true) : TrOps P N w0 O0 ops Q e M (o :: rest) :=
 .callG hspec (fun O H a w hst => by
  have hx' := rep_v (hst.slotsAt #[x] x (by simp) _ hx)
  rw [run_inv ho hx' (argsEq (O := O) (H := H) (w := w) (fun x hx s hs' => hst.slotsAt as_ x hx s hs') ha (hv H)), hcm]
  have := hspec.can (v0 :: args).toArray w
  simpa using this) hgd hd hdN hn hle hdi hM hkd hds hc
theorem TrOps.callV {hs : List Nat} {kd d fn n h b off T et : Nat} {x : Operand} {name : String} {as_ : Array Operand} {ts : Array TypeId} {t : TypeId} {v0 : Value} {args : List Value} {ds : Ds} {F : Res} {G : HP} {lc : List Value} {R : Value → Res → Ds → Prop} {l : List S} (hspec : DoesM P fn (v0 :: args) ds n F R)
  (hcm : ∀ b off xs w, (callMethod (.iface t (ptr b off)) name xs).run P w = (do let v ← loadVar et ⟨b, off, none⟩; callFunc fn (#[v] ++ xs)).run P w)
  (ht : vsz P et = some (false, 1)) (hMh : look M h = some (poM G)) (hG : G b = some (.c T lc)) (hlc : lc[off]? = some v0)
  (ho : o.op = .call { callee := .invoke x name, args := as_, argTypes := ts }) (hgd : o.guard = none) (hd : o.dst = some d) (hdN : d < N) (hx : opS e x = some (.d (.v (.iface t (ptr b off))))) (ha : opsS e as_.toList = some l) (hv : ∀ H, l.mapM (valS H 9) = some args) (hn : hs.length = n) (hle : hs.length ≤ 900) (hdi : distN hs = true) (hM : HasM M hs F 0) (hds : DsIn M ds)
  (hc : ∀ v F' ds', R v F' ds' → TrOps P N w0 O0 ops Q ((d, .d (.v v)) :: e) ((kd, .fr (dsS ds')) :: updM hs F' 0 M) rest) (hkd : hs.all (fun h => !(Nat.beq h kd)) = true) : TrOps P N w0 O0 ops Q e M (o :: rest) :=
 .callG hspec (fun O H a w hst => by
  have hx' := rep_v (hst.slotsAt #[x] x (by simp) _ hx)
  have hb : w.heap[b]? = some (.cells lc.toArray T (0, 0)) := (hst.mem _ _ hMh b _ hG).2.2
  rw [run_inv ho hx' (argsEq (O := O) (H := H) (w := w) (fun x hx s hs' => hst.slotsAt as_ x hx s hs') ha (hv H)), hcm]
  simp only [Sem.run_bind, run_loadVar1 ht (cellOf hb (by simpa using hlc)), Result.andThen_ok]
  have := hspec.can (v0 :: args).toArray w
  simpa using this) hgd hd hdN hn hle hdi hM hkd hds hc
end
end Go.Eng
end

section
namespace Go.Eng
theorem flat_get {α : Type} {k : Nat} : ∀ {rows : List (List α)} {i j : Nat} {r : List α} {x : α}, (∀ r, r ∈ rows → r.length = k) → rows[i]? = some r → r[j]? = some x → rows.flatten[i * k + j]? = some x
 | [], i, j, r, x, _, h, _ => by simp at h
 | r0 :: rows, i, j, r, x, hk, hi, hj => by
  have h0 := hk r0 (by simp)
  cases i with
  | zero =>
   simp at hi; subst hi
   have := (List.getElem?_eq_some_iff.1 hj).1
   rw [Nat.zero_mul, Nat.zero_add, List.flatten_cons, List.getElem?_append_left this]; exact hj
  | succ i =>
   have e : (i + 1) * k + j = r0.length + (i * k + j) := by rw [h0, Nat.succ_mul]; omega
   rw [e, List.flatten_cons, List.getElem?_append_right (by omega), Nat.add_sub_cancel_left]
   exact flat_get (fun r hr => hk r (by simp [hr])) (by simpa using hi) hj
theorem flat_len {α : Type} {k : Nat} : ∀ {rows : List (List α)}, (∀ r, r ∈ rows → r.length = k) → rows.flatten.length = rows.length * k
 | [], _ => by simp
 | r :: rows, h => by
  rw [List.flatten_cons, List.length_append, h r (by simp), flat_len fun r hr => h r (by simp [hr]), List.length_cons, Nat.succ_mul, Nat.add_comm]
section
variable {P : Program} {N : Nat} {w0 : World} {O0 : Nat → Nat} {ops : Array Oper} {Q : Post} {e : Env} {M : Mem} {rest : List Oper} {B : Nat} {o : Oper} {s : S} {c : Code}
theorem TrOps.appendO {x y : Operand} {t h k T d by_ : Nat} {p : Pl} {rows : List (List Value)} {r : List Value} {zs : List Value} (ho : o.op = .call { callee := .builtin .append, args := #[x, y], argTypes := #[t, t] }) (hg : o.guard = none) (hd : o.dst = some d) (hdN : d < N)
  (hx : opS e x = some (.d (.v (plV p rows.length)))) (hM : look M h = some (poM (plMe T p rows.flatten))) (hy : opS e y = some (.d (.s k [r.map .v]))) (hk : esz P t = some k) (hT : P.elem t = T) (hz : zcells P T = some zs) (hzk : zs.length = k) (hby : P.bytesOf T = by_)
  (hw : ∀ r, r ∈ rows → r.length = k ∧ ∀ u, u ∈ r → u.oneCell' = true) (hr : r.length = k) (h1 : ∀ u, u ∈ r → u.oneCell' = true) (hlen : (rows.length + 1) ≤ maxLen) (hroom : (rows.length + 1) * by_ ≤ 140737488355328) (hok : PlOk p k rows.length rows.flatten)
  (hn : ∀ (b cap : Nat) (tl : List Value), PlOk (some (b, cap, tl)) k (rows.length + 1) (rows.flatten ++ r) → TrOps P N w0 O0 ops Q ((d, .d (.v (slc b (rows.length + 1) cap))) :: e) ((h, poM (oneO b (.c T (rows.flatten ++ r ++ tl)))) :: M) rest) : TrOps P N w0 O0 ops Q e M (o :: rest) := by
 intro O H a w hst
 have hsz := hst.size
 have hm := hst.mem h _ hM
 have hxa := rep_v (hst.slotsAt #[x] x (by simp) _ hx)
 have hv := hst.slotsAt #[y] y (by simp) _ hy
 generalize hya : a.eval y = ya at hv
 cases hv with
 | d _ _ hv =>
 have hpl : ∀ c, p.map (·.1) = some c → ∃ cap tl, p = some (c, cap, tl) := fun c hc => by
  obtain ⟨q, rfl, rfl⟩ := Option.map_eq_some_iff.1 hc
  exact ⟨q.2.1, q.2.2, rfl⟩
 have hpF : ∀ c cap tl, p = some (c, cap, tl) → plMe T p rows.flatten c = some (.c T (rows.flatten ++ tl)) := fun c cap tl e => by rw [e]; exact oneO_s
 have hpc : ∀ c, p.map (·.1) = some c → w0.heap.size ≤ c ∧ O c = h + 1 ∧ c < w.heap.size := fun c hc => by
  obtain ⟨cap, tl, e⟩ := hpl c hc
  obtain ⟨q1, q2, q3⟩ := hm c _ (hpF c cap tl e)
  exact ⟨q1, q2, OB.lt q3⟩
 obtain ⟨O1, hO1⟩ : ∃ O1 : Nat → Nat, O1 = fun c => if p.map (·.1) = some c then h + 1 else 0 := ⟨_, rfl⟩
 have hk1 : Keeps O w O1 w := fun c _ h0 => ⟨by
  rw [hO1]; simp only []
  rw [if_neg (fun hc => by have := (hpc c hc).2.1; omega)], rfl⟩
 have hfl := flat_len (k := k) fun r hr => (hw r hr).1
 have hm1 : MHold O1 (fun _ => plV p rows.length) 0 w h (.own k T (rows.map fun r => r.map D.v)) := by
  cases hp : p with
  | none => exact .inl ⟨rfl, by rw [List.eq_nil_of_length_eq_zero (hok.e hp)]; rfl⟩
  | some q =>
   obtain ⟨c, cap, tl⟩ := q
   obtain ⟨f2, f4, f3⟩ := hok.s c cap tl hp
   obtain ⟨q1, q2, q3⟩ := hm c _ (hpF c cap tl hp)
   refine .inr ⟨c, cap, (rows.flatten ++ tl).toArray, by simp [plV], Nat.zero_le _, by rw [hO1]; simp [hp], q3, by simpa using f4, f3, by simpa using f2, fun r' hr' => ?_, fun i r' j dd hi hj => ?_⟩
   ·obtain ⟨u, hu, rfl⟩ := List.mem_map.1 hr'; simpa using (hw u hu).1
   ·rw [List.getElem?_map, Option.map_eq_some_iff] at hi
    obtain ⟨u, hu, rfl⟩ := hi
    rw [List.getElem?_map, Option.map_eq_some_iff] at hj
    obtain ⟨v, hv, rfl⟩ := hj
    have hg := flat_get (fun r hr => (hw r hr).1) hu hv
    refine ⟨v, ?_, .v _, (hw u (List.mem_of_getElem? hu)).2 v (List.mem_of_getElem? hv)⟩
    rw [List.getElem?_toArray, List.getElem?_append_left (List.getElem?_eq_some_iff.1 hg).1]; exact hg
 obtain ⟨x', w', O2, H2, hrun, hkeep, hbel, hH', ho1, hm'⟩ := run_append (ty := o.type) hk hT hz hzk hby hm1 (hv.mono hk1) (by
  intro r' hr'
  simp at hr'
  subst hr'
  rw [List.all_eq_true]
  intro dd hdd
  obtain ⟨u, hu, rfl⟩ := List.mem_map.1 hdd
  exact h1 u hu) (Nat.zero_le _) (by simpa using hlen) (by simpa using hroom)
 have hrows : (rows.map fun r => r.map D.v) ++ [r.map D.v] = (rows ++ [r]).map fun r => r.map D.v := by simp
 have hall : ∀ r', r' ∈ rows ++ [r] → r'.length = k := fun r' hr' => by
  rcases List.mem_append.1 hr' with h | h
  ·exact (hw r' h).1
  ·simp at h; rw [h]; exact hr
 have hflat : (rows ++ [r]).flatten = rows.flatten ++ r := by simp
 have hfl2 := flat_len hall
 rw [hflat] at hfl2
 rcases hm' with ⟨_, hnil⟩ | ⟨b, cap, xs, hHb, _, hOb, hb, hlc, hcm, hxsz, _, hcc⟩
 ·simp at hnil
 rw [hrows, List.length_map, List.length_append, List.length_singleton] at hHb hlc
 rw [hrows] at hcc
 have hbF : w.heap.size ≤ b ∨ p.map (·.1) = some b := by
  by_cases hlt : b < w.heap.size
  ·refine .inr ?_
   rw [hkeep.lab b hlt, hO1] at hOb
   simp only [] at hOb
   by_cases hc : p.map (·.1) = some b
   ·exact hc
   ·rw [if_neg hc] at hOb; omega
  ·exact .inl (by omega)
 have hcapk : (rows.length + 1) * k ≤ cap * k := Nat.mul_le_mul_right k hlc
 have hlt1 : rows.flatten.length + r.length = (rows.length + 1) * k := by simpa only [List.length_append, List.length_singleton] using hfl2
 have hx0 : xs.toList.take (rows.flatten ++ r).length = rows.flatten ++ r := by
  have hxl : xs.toList.length = cap * k := by simpa using hxsz
  refine List.ext_getElem (by rw [List.length_take, hxl, Nat.min_eq_left (by rw [List.length_append]; omega)]) fun n g1 g2 => ?_
  have hn2 : n < (rows.length + 1) * k := by rw [List.length_append] at g2; omega
  have hk0 : 0 < k := Nat.pos_of_ne_zero fun e => by rw [e] at hn2; simp at hn2
  have hi : n / k < (rows ++ [r]).length := by
   rw [List.length_append, List.length_singleton]
   exact (Nat.div_lt_iff_lt_mul hk0).2 hn2
  have hj : n % k < ((rows ++ [r])[n / k]).length := by rw [hall _ (List.getElem_mem hi)]; exact Nat.mod_lt _ hk0
  have hn3 : n / k * k + n % k = n := by rw [Nat.mul_comm]; exact Nat.div_add_mod n k
  have hg := flat_get hall (List.getElem?_eq_getElem hi) (List.getElem?_eq_getElem hj)
  rw [hn3, hflat, List.getElem?_eq_getElem g2] at hg
  obtain ⟨u, q1, q2, _⟩ := hcc (n / k) _ (n % k) (.v ((rows ++ [r])[n / k])[n % k]) (by rw [List.getElem?_map, List.getElem?_eq_getElem hi]; rfl) (by rw [List.getElem?_map, List.getElem?_eq_getElem hj]; rfl)
  generalize hz : ((rows ++ [r])[n / k])[n % k] = z at q2 hg
  cases q2 with
  | v _ =>
   rw [hn3] at q1
   simp only [List.getElem_take, Array.getElem_toList]
   rw [Option.some.inj hg]
   exact (Array.getElem?_eq_some_iff.1 q1).2
 have hxs : (rows.flatten ++ r ++ xs.toList.drop (rows.flatten ++ r).length).toArray = xs := by
  apply Array.ext'
  simp only [List.toList_toArray]
  conv => rhs; rw [← List.take_append_drop (rows.flatten ++ r).length xs.toList, hx0]
 have hcap : (rows.flatten ++ r ++ xs.toList.drop (rows.flatten ++ r).length).length = cap * k := by
  have : (rows.flatten ++ r ++ xs.toList.drop (rows.flatten ++ r).length).toArray.size = xs.size := by rw [hxs]
  simp only [List.size_toArray] at this
  rw [this, hxsz]
 refine wpList_plain hg fun K hK => ?_
 unfold Oper.wp
 have hex : (execOp a.eval o).run P w = .ok (.value x') w' := by simp [execOp, ho, resolve, invoke, builtin, hxa, hya, hrun]
 rw [hex]
 obtain ⟨O3, hO3⟩ : ∃ O3 : Nat → Nat, O3 = fun c => if c = b then h + 1 else O c := ⟨_, rfl⟩
 have hlab : ∀ c, c < w.heap.size → O3 c = O c := fun c hc => by
  rw [hO3]; simp only []
  split
  ·rename_i e
   subst e
   rcases hbF with hF | hF
   ·omega
   ·exact (hpc c hF).2.1.symm
  ·rfl
 have hother : ∀ c, c < w.heap.size → p.map (·.1) ≠ some c → w'.heap[c]? = w.heap[c]? := fun c hc hne => hkeep.hp c hc fun h' he hl => by
  rw [hO1] at hl; simp only [] at hl
  rw [if_neg hne] at hl; omega
 have hk3 : Keep (some h) none O H w O3 H w' := ⟨hlab, fun c hc hne => hother c hc fun hpp => hne h rfl (hpc c hpp).2.1, fun _ _ => rfl⟩
 refine hK _ _ (hn b cap (xs.toList.drop (rows.flatten ++ r).length) ⟨fun e => (by cases e), by rw [List.length_append]; omega, fun b' cap' tl' e => by cases e; exact ⟨hcap, hlc, hcm⟩⟩ O3 H _ _ ⟨?_, ?_, hst.bl.trans ⟨hbel.os, hbel.tape, hbel.output, hbel.size, fun c hc => hother c (by omega) fun hpp => by have := (hpc c hpp).1; omega, hbel.drawn⟩, fun c hc => (hlab c (by omega)).trans (hst.lab c hc), ?_, fun n m hm2 => ?_⟩)
 ·rw [hd]; exact hst.df
 ·rw [hd]; simp [Act.put, hst.sz]
 ·rw [hd]
  exact put_slots hst.sz hdN (by rw [← hH', hHb]; exact .d _ _ (.v _)) fun n s hs => by
   obtain ⟨y, hy, hr⟩ := hst.slots n s hs
   exact ⟨y, hy, hr.mono0 hk3⟩
 ·rcases look_cons hm2 with ⟨rfl, rfl⟩ | ⟨hne, hm2⟩
  ·intro c x hc
   obtain ⟨rfl, rfl⟩ := oneO_ne hc
   refine ⟨?_, by rw [hO3]; simp, by show w'.heap[c]? = _; rw [hxs]; exact hb⟩
   rcases hbF with hF | hF
   ·omega
   ·exact (hpc c hF).1
  ·exact (hst.mem n m hm2).mono hk3 (by intro e; cases e; exact hne rfl) (by simp) 0 (fun h he => by cases he) (.inl rfl)
end
end Go.Eng
end

section
namespace Go.Eng
theorem look_skip {α : Type} {d n : Nat} {v : α} {e : List (Nat × α)} (h : n ≠ d) : look ((d, v) :: e) n = look e n := by
 have : Nat.beq d n = false := by
  cases hb : Nat.beq d n with
  | false => rfl
  | true => exact absurd (Nat.eq_of_beq_eq_true hb).symm h
 simp [look, this]
abbrev cD (D : Nat) : Deferred := { target := .collected D, args := #[] }
def dsK (Oc : Nat → Nat) (W : World) (ds : List Deferred) : Km := {
 q := fun O _ _ w h => ds.Pairwise (· ≠ ·) ∧ ∀ d, d ∈ ds → ∃ D, d = cD D ∧ O D = h + 1 ∧ w.heap[D]? = some (.deferred (some [])) ∧ ¬ (D < W.heap.size ∧ (Oc D = 0 ∨ Oc D = 1000))
 mono := by
  intro O O' v B w w' h hk ⟨hn, hq⟩
  refine ⟨hn, fun d hd => ?_⟩
  obtain ⟨D, h1, h2, h3, h4⟩ := hq d hd
  obtain ⟨k1, k2⟩ := hk D (Array.getElem?_eq_some_iff.1 h3).1 (.inr h2)
  exact ⟨D, h1, k1.trans h2, k2.trans h3, h4⟩ }
def lpK (l : Nat) (r : Loop) : Km := {
 q := fun O _ _ w h => O l = h + 1 ∧ w.heap[l]? = some (.loop r)
 mono := by
  intro O O' v B w w' h hk ⟨h1, h2⟩
  obtain ⟨k1, k2⟩ := hk l (Array.getElem?_eq_some_iff.1 h2).1 (.inr h1)
  exact ⟨k1.trans h1, k2.trans h2⟩ }
abbrev Qd (ds : List Deferred) (Q : Post) : Post := fun x a w => Q x (a.wd ds) w
def TrD (P : Program) (N : Nat) (w0 : World) (O0 : Nat → Nat) (ds : List Deferred) (e : Env) (M : Mem) (c : Code) (Q : Post) : Prop :=
 ∀ (O : Nat → Nat) (H : Nat → Value) (a : Act) (w : World), St N w0 O0 e M O H a w → c.ww P Q (a.wd ds) w
abbrev AtD (N : Nat) (w0 : World) (O0 : Nat → Nat) (ds : List Deferred) (e : Env) (M : Mem) (x : Exit) (Q : Post) : Prop := At N w0 O0 e M x (Qd ds Q)
section
variable {P : Program} {N : Nat} {w0 : World} {O0 : Nat → Nat} {ops : Array Oper} {Q : Post} {e : Env} {M : Mem} {rest : List Oper} {B : Nat} {o : Oper} {s : S} {c : Code} {ds : List Deferred}
theorem TrD.of (h : Tr P N w0 O0 e M c (Qd ds Q)) : TrD P N w0 O0 ds e M c Q := fun O H a w hst => ww_wd (h O H a w hst)
theorem TrD.region {id : Nat} {l : List Oper} (h : TrOps P N w0 O0 l.toArray (Qd ds Q) e M l) : TrD P N w0 O0 ds e M (.region id l.toArray false) Q := .of (Tr.region h)
theorem TrD.seq {c d : Code} (h : TrD P N w0 O0 ds e M c (Exit.then (d.ww P Q) Q)) : TrD P N w0 O0 ds e M (.seq c d) Q := h
theorem TrD.block {id : Nat} {c : Code} (h : TrD P N w0 O0 ds e M c (Exit.inBlock id Q)) : TrD P N w0 O0 ds e M (.block id c) Q := h
theorem TrD.skip (h : AtD N w0 O0 ds e M .normal Q) : TrD P N w0 O0 ds e M .skip Q := h
theorem TrD.exit {id : Nat} (h : AtD N w0 O0 ds e M (.exit id) Q) : TrD P N w0 O0 ds e M (.exit id) Q := h
theorem TrD.ret (h : AtD N w0 O0 ds e M .ret Q) : TrD P N w0 O0 ds e M .ret Q := h
theorem TrD.cond {c : Operand} {x y : Code} {b : Bool} (hc : opS e c = some (.d (.v (.bool b)))) (ht : b = true → TrD P N w0 O0 ds e M x Q) (hf : b = false → TrD P N w0 O0 ds e M y Q) : TrD P N w0 O0 ds e M (.cond c x y) Q := by
 intro O H a w hst
 have hr := hst.slotsAt #[c] c (by simp) _ hc
 refine ⟨b, ?_, fun h => ht h O H a w hst, fun h => hf h O H a w hst⟩
 rw [Act.wd_eval]
 exact rep_v hr
theorem AtD.seq {c : Code} (h : TrD P N w0 O0 ds e M c Q) : AtD N w0 O0 ds e M .normal (Exit.then (c.ww P Q) Q) := h
theorem AtD.pass_exit {K : Act → World → Prop} {i : Nat} (h : AtD N w0 O0 ds e M (.exit i) Q) : AtD N w0 O0 ds e M (.exit i) (Exit.then K Q) := h
theorem AtD.pass_ret {K : Act → World → Prop} (h : AtD N w0 O0 ds e M .ret Q) : AtD N w0 O0 ds e M .ret (Exit.then K Q) := h
theorem AtD.block_normal {i : Nat} (h : AtD N w0 O0 ds e M .normal Q) : AtD N w0 O0 ds e M .normal (Exit.inBlock i Q) := h
theorem AtD.block_ret {i : Nat} (h : AtD N w0 O0 ds e M .ret Q) : AtD N w0 O0 ds e M .ret (Exit.inBlock i Q) := h
theorem AtD.block_same {i : Nat} (h : AtD N w0 O0 ds e M .normal Q) : AtD N w0 O0 ds e M (.exit i) (Exit.inBlock i Q) := fun O H a w hst => by
 simp only [Qd, Exit.inBlock, if_true]; exact h O H a w hst
def InvD (N : Nat) (w0 : World) (O0 : Nat → Nat) (Oc : Nat → Nat) (W : World) {X : Type} (p : X → Prop) (I : X → Env) (J : X → Mem) (μ : X → Nat) (n : Nat) (a : Act) (w : World) : Prop :=
 ∃ (x : X) (ds : List Deferred) (O : Nat → Nat) (H : Nat → Value) (a0 : Act), a = a0.wd ds ∧ p x ∧ μ x < n ∧ St N w0 O0 (I x) ((9002, .any (dsK Oc W ds)) :: J x) O H a0 w
theorem TrD.loop {Oc : Nat → Nat} {W : World} {X : Type} {c : Code} (p : X → Prop) (I : X → Env) (J : X → Mem) (μ : X → Nat) (x0 : X) (hp : p x0) (h0 : Sub e M (I x0) ((9002, .any (dsK Oc W ds)) :: J x0))
  (hb : ∀ x ds, p x → TrD P N w0 O0 ds (I x) ((9002, .any (dsK Oc W ds)) :: J x) c (Exit.then (InvD N w0 O0 Oc W p I J μ (μ x)) Q)) : TrD P N w0 O0 ds e M (.loop c) Q := by
 intro O H a w hst
 refine ⟨fun n a w => ∃ (x : X) (ds : List Deferred) (O : Nat → Nat) (H : Nat → Value) (a0 : Act), a = a0.wd ds ∧ p x ∧ μ x = n ∧ St N w0 O0 (I x) ((9002, .any (dsK Oc W ds)) :: J x) O H a0 w, μ x0, ⟨x0, ds, O, H, a, rfl, hp, rfl, h0.st hst⟩, ?_⟩
 rintro n a w ⟨x, ds, O, H, a0, rfl, hp, rfl, hst⟩
 refine ww_mono (hb x ds hp O H a0 w hst) fun ex a' w' hq => ?_
 cases ex with
 | normal =>
  obtain ⟨y, ds', O', H', a1, ha, hp', hlt, hst'⟩ := hq
  exact ⟨μ y, hlt, y, ds', O', H', a1, ha, hp', rfl, hst'⟩
 | exit id => exact hq
 | goto l => exact hq
 | ret => exact hq
 | panic c => exact hq
 | outgrown => exact hq
theorem AtD.again {Oc : Nat → Nat} {W : World} {X : Type} {p : X → Prop} {I : X → Env} {J : X → Mem} {μ : X → Nat} {n : Nat} (y : X) (hp : p y) (hs : Sub e M (I y) ((9002, .any (dsK Oc W ds)) :: J y)) (hlt : μ y < n) : AtD N w0 O0 ds e M .normal (Exit.then (InvD N w0 O0 Oc W p I J μ n) Q) :=
 fun O H a w hst => ⟨y, ds, O, H, a, rfl, hp, hlt, hs.st hst⟩
def SeqD (P : Program) (gf : Nat) (lb : List Value) (n : Nat) (enc : Nat → Value) (O : Nat → Nat) (w : World) : Prop :=
 ∀ (l : Nat) (J : Nat → World → Prop) (W : World), (∀ b, b < w.heap.size → O b = 0 → W.heap[b]? = w.heap[b]?) → (∀ k A A', J k A → Below A.heap.size A A' → J k A') →
  (∀ k W1, k < n → J k W1 → YieldAt Fence.wide 1 P l #[enc k] W1 fun en W' => en = .returned (.bool true) ∧ J (k + 1) W' ∧ ∀ b, b < w.heap.size → O b = 0 → W'.heap[b]? = W1.heap[b]?) →
  J 0 W → CallsIn Fence.wide 2 P gf (#[.func (.yield l) #[] #[]] ++ lb.toArray) W fun en W' => (∃ v, en = .returned v) ∧ J n W'
theorem St.grow {O : Nat → Nat} {H : Nat → Value} {a : Act} {w w' : World} (hst : St N w0 O0 e M O H a w) (hb : Below w.heap.size w w') : St N w0 O0 e M O H a w' := by
 have hk : Keep none none O H w O H w' := ⟨fun _ _ => rfl, fun b hb' _ => hb.block b hb', fun _ _ => rfl⟩
 exact ⟨hst.df, hst.sz, hst.bl.trans (hb.mono hst.size), hst.lab, fun n s hs => by
  obtain ⟨x, hx, hr⟩ := hst.slots n s hs
  exact ⟨x, hx, hr.mono0 hk⟩, fun h m hm => (hst.mem h m hm).mono hk (by simp) (by simp) 0 (fun h he => by cases he) (.inl rfl)⟩
theorem St.turn {O : Nat → Nat} {H : Nat → Value} {a : Act} {w : World} {l : Nat} {r r' : Loop} (hst : St N w0 O0 e ((9001, .any (lpK l r)) :: M) O H a w) (hl : w0.heap.size ≤ l) : St N w0 O0 e ((9001, .any (lpK l r')) :: M) O H a (w.putObj l (.loop r')) := by
 obtain ⟨g1, g2⟩ := hst.mem 9001 (.any (lpK l r)) (by simp [look])
 have hlt := (Array.getElem?_eq_some_iff.1 g2).1
 have hk : Keep (some 9001) none O H w O H (w.putObj l (.loop r')) := ⟨fun _ _ => rfl, fun b hb hne => World.putObj_heap_other (fun e => hne 9001 rfl (by rw [e]; exact g1)), fun _ _ => rfl⟩
 refine ⟨hst.df, hst.sz, ⟨hst.bl.os, hst.bl.tape, hst.bl.output, by simpa using hst.bl.size, fun b hb => (World.putObj_heap_other (by omega)).trans (hst.bl.block b hb), hst.bl.drawn⟩, hst.lab, fun n s hs => ?_, fun n m hm => ?_⟩
 ·obtain ⟨x, hx, hr⟩ := hst.slots n s hs
  exact ⟨x, hx, hr.mono0 hk⟩
 ·rcases look_cons hm with ⟨rfl, rfl⟩ | ⟨hne, hm⟩
  ·exact ⟨g1, World.putObj_heap_same hlt⟩
  ·exact (hst.mem n m (by rw [look_skip hne]; exact hm)).mono hk (by intro e; cases e; exact hne rfl) (by simp) 0 (fun h he => by cases he) (.inl rfl)
abbrev rgM (l : Nat) (r : Loop) (Oc : Nat → Nat) (W : World) (ds : List Deferred) (K : Kr) (J : Mem) : Mem := (9001, .any (lpK l r)) :: (9002, .any (dsK Oc W ds)) :: (9003, .fr K) :: J
def EndR (N : Nat) (w0 : World) (O0 : Nat → Nat) (e' : Env) {Y : Type} (p : Y → Prop) (J : Y → Mem) : Post := fun x a w => x = .normal ∧ ∃ y O H, p y ∧ St N w0 O0 e' (J y) O H a w
theorem At.endR {e' : Env} {Y : Type} {p : Y → Prop} {J : Y → Mem} (y : Y) (hp : p y) (hs : Sub e M e' (J y)) : At N w0 O0 e M .normal (EndR N w0 O0 e' p J) := fun O H a w hst => ⟨rfl, y, O, H, hp, hs.st hst⟩
def BegR (P : Program) (body : Code) (l : Nat) (r0 r : Loop) (Q : Post) : Act → World → Prop := fun a w => w.heap[l]? = some (.loop r0) ∧ body.ww P Q a (w.putObj l (.loop r))
theorem At.begR {body : Code} {l : Nat} {r r' : Loop} {Q' : Post} {e1 : Env} {M1 : Mem} (hs : Sub e M e1 ((9001, .any (lpK l r)) :: M1)) (hl : w0.heap.size ≤ l) (h : Tr P N w0 O0 e1 ((9001, .any (lpK l r')) :: M1) body Q') : At N w0 O0 e M .normal (Exit.then (BegR P body l r r' Q') Q) :=
 fun O H a w hst => ⟨((hs.st hst).mem 9001 (.any (lpK l r)) rfl).2, h O H a _ ((hs.st hst).turn hl)⟩
theorem keysT {e : Env} {a a' : Act} {O : Nat → Nat} {H : Nat → Value} {w : World} (hs : ∀ n s, look e n = some s → ∃ x, a'.tmps[n]? = some x ∧ RepS O H w x s) (ht : SameT (e.map (·.1)) a a') : ∀ n s, look e n = some s → ∃ x, a.tmps[n]? = some x ∧ RepS O H w x s := fun n s hl => by
 obtain ⟨x, hx, hr⟩ := hs n s hl
 exact ⟨x, by rw [← ht n (List.mem_map.2 ⟨_, look_mem hl, rfl⟩)]; exact hx, hr⟩
theorem TrD.range {Oc : Nat → Nat} {W : World} {Y : Type} {n gf q : Nat} {g : Operand} {asg body : Code} {lb : List Value} {enc : Nat → Value} (e' : Env) (J : Nat → Y → Mem) (p : Nat → Y → Prop) (y0 : Y) (sp : Nat → S)
  (hg : opS e g = some (.d (.v (.func (.func gf) #[] lb.toArray)))) (hseq : ∀ O H a w, St N w0 O0 e M O H a w → SeqD P gf lb n enc O w) (can : ∀ xs w, (callFunc gf xs).run P w = .ok (.enter gf xs) w)
  (hp : p 0 y0) (h0 : Sub e M e' (J 0 y0)) (hds : look M 9002 = some (.any (dsK Oc W ds))) (h999 : look M 999 = some (.any (restK Oc W))) (h1000 : look M 1000 = some (.fr (frK Oc W)))
  (hq : q < N) (hqe : (e'.map (·.1)).all (fun k => !(Nat.beq k q)) = true) (hoa : asg.offs (e'.map (·.1)) = true) (hob : body.offs (e'.map (·.1)) = true) (hna : asg.nod = true) (hnb : body.nod = true)
  (hJ : ∀ k y, look (J k y) 9001 = none ∧ look (J k y) 9003 = none) (hsp : ∀ k O H w, RepS O H w (enc k) (sp k))
  (hbody : ∀ k y l r0 r1 ds' K, k < n → p k y → w0.heap.size ≤ l → Tr P N w0 O0 ((q, sp k) :: e') (rgM l r0 Oc W ds' K (J k y)) asg (Exit.then (BegR P body l r0 r1 (EndR N w0 O0 e' (p (k + 1)) fun y => rgM l r1 Oc W ds' K (J (k + 1) y))) fun _ _ _ => False))
  (hrest : ∀ y ds', p n y → AtD N w0 O0 ds' e' ((9002, .any (dsK Oc W ds')) :: J n y) .normal Q) : TrD P N w0 O0 ds e M (.rangeFunc g #[q] asg body) Q := by
 intro O H a w hst ds2
 have hsd := hseq O H a w hst
 have hgv := rep_v (hst.slotsAt #[g] g (by simp) _ hg)
 obtain ⟨hdn, hdm⟩ := hst.mem 9002 _ hds
 have hfr := hst.mem 1000 _ h1000
 have hrs := hst.mem 999 _ h999
 have hsz := hst.size
 rw [Act.wd_wd]
 refine (wpIn_wide (n := 3)).1 (wpIn_rangeFunc ?_)
 intro fn hfn
 obtain ⟨rec, hrec⟩ : ∃ rec : LoopState → Option Code → Loop, rec = fun st pe => { state := st, pending := pe, fn, tmps := a.tmps, params := #[q], assign := asg, body, defers := w.heap.size } := ⟨_, rfl⟩
 obtain ⟨W1, hW1⟩ : ∃ W1, (w.alloc (.deferred (some []))).alloc (.loop (rec .ready none)) = W1 := ⟨_, rfl⟩
 have hs1 : W1.heap.size = w.heap.size + 2 := by rw [← hW1]; simp
 have hL1 : W1.heap[w.heap.size + 1]? = some (.loop (rec .ready none)) := by
  rw [← hW1]; have := World.alloc_heap_new (w.alloc (.deferred (some []))) (.loop (rec .ready none)); rwa [World.size_alloc] at this
 have hK1 : W1.heap[w.heap.size]? = some (.deferred (some [])) := by
  rw [← hW1]; exact (Below.heap_alloc _ _ _ (by simp)).trans (World.alloc_heap_new w _)
 have hb1 : Below w.heap.size w W1 := by
  rw [← hW1]; exact (((Below.refl _ w).alloc (Nat.le_refl _) _).alloc (by simp) _)
 obtain ⟨O1, hO1⟩ : ∃ O1 : Nat → Nat, O1 = fun b => if b = w.heap.size then 9003 else if b = w.heap.size + 1 then 9002 else O b := ⟨_, rfl⟩
 obtain ⟨ds', hds'⟩ : ∃ ds' : List Deferred, ds' = cD w.heap.size :: ds := ⟨_, rfl⟩
 have hk1 : Keep none none O H w O1 H W1 := ⟨fun b hb => by rw [hO1]; simp only []; rw [if_neg (by omega), if_neg (by omega)], fun b hb _ => hb1.block b hb, fun _ _ => rfl⟩
 obtain ⟨J1, hJ1⟩ : ∃ J1 : Nat → World → Prop, J1 = fun k W' => ∃ y O H, p k y ∧ St N w0 O0 e' (rgM (w.heap.size + 1) (rec .ready none) Oc W ds' (frK O1 W1) (J k y)) O H a W' := ⟨_, rfl⟩
 have hst0 := h0.st hst
 have hJ0 : J1 0 W1 := by
  rw [hJ1]
  refine ⟨y0, O1, H, hp, hst.df, hst.sz, hst.bl.trans (hb1.mono hsz), fun b hb => (hk1.lab b (by omega)).trans (hst.lab b hb), fun m s hs => ?_, fun m mo hm => ?_⟩
  ·obtain ⟨x, hx, hr⟩ := hst0.slots m s hs
   exact ⟨x, hx, hr.mono0 hk1⟩
  ·rcases look_cons hm with ⟨rfl, rfl⟩ | ⟨_, hm⟩
   ·exact ⟨by rw [hO1]; simp, hL1⟩
   ·rcases look_cons hm with ⟨rfl, rfl⟩ | ⟨_, hm⟩
    ·refine ⟨?_, fun d hd => ?_⟩
     ·rw [hds', List.pairwise_cons]
      refine ⟨fun d hd e => ?_, hdn⟩
      obtain ⟨D, rfl, _, h3, _⟩ := hdm d hd
      have h4 := (Array.getElem?_eq_some_iff.1 h3).1
      simp only [cD, Deferred.mk.injEq, Target.collected.injEq, and_true] at e
      omega
     ·rw [hds'] at hd
      rcases List.mem_cons.1 hd with rfl | hd
      ·refine ⟨_, rfl, by rw [hO1]; simp, hK1, fun ⟨h1, h2⟩ => ?_⟩
       have h3 : w.heap[w.heap.size]? = W.heap[w.heap.size]? := h2.elim (fun h => (hfr _ h1 h).2) (fun h => (hrs _ h1 h).2)
       rw [Array.getElem?_eq_getElem h1] at h3
       simp at h3
      ·obtain ⟨D, h1, h2, h3, h4⟩ := hdm d hd
       have h5 := (Array.getElem?_eq_some_iff.1 h3).1
       exact ⟨D, h1, (hk1.lab D h5).trans h2, (hb1.block D h5).trans h3, h4⟩
    ·rcases look_cons hm with ⟨rfl, rfl⟩ | ⟨_, hm⟩
     ·exact fun b _ h => ⟨h, rfl⟩
     ·exact (hst0.mem m mo hm).mono hk1 (by simp) (by simp) 0 (fun h he => by cases he) (.inl rfl)
 have hzero : ∀ k W', J1 k W' → ∀ b, b < w.heap.size → O b = 0 → W'.heap[b]? = w.heap[b]? := fun k W' hj b hb h0' => by
  rw [hJ1] at hj
  obtain ⟨y, O', H', _, hst'⟩ := hj
  have := hst'.mem 9003 (.fr (frK O1 W1)) rfl
  exact (this b (by omega) ((hk1.lab b hb).trans h0')).2.trans (hb1.block b hb)
 refine ⟨w.heap.size + 1, [{ target := .collected w.heap.size, args := #[] }], W1, { target := .fn (.func gf) lb.toArray, args := #[.func (.yield (w.heap.size + 1)) #[] #[]] }, W1, gf,
  #[.func (.yield (w.heap.size + 1)) #[] #[]] ++ lb.toArray, W1, ?_, ?_, ?_, ?_, fun _ => by omega, ?_⟩
 ·rw [← hW1, hrec]; exact run_enterLoop_outer _ _ _ _ _
 ·rw [Act.wd_eval]
  simp only [resolve, rangeCall, hgv]
  simp [go_sem]
 ·intro f' hf'; simp [Target.leads] at hf'; exact trivial
 ·simp [invoke, can]
 refine ((hsd (w.heap.size + 1) J1 W1 (fun b hb h0' => hb1.block b hb) (fun k A A' hj hb => ?_) ?_ hJ0)).mono ?_
 ·rw [hJ1] at hj ⊢
  obtain ⟨y, O', H', h1, h2⟩ := hj
  exact ⟨y, O', H', h1, h2.grow hb⟩
 ·intro k W2 hk hj
  have hj' := hj
  rw [hJ1] at hj
  obtain ⟨y, O2, H2, hpy, hst2⟩ := hj
  obtain ⟨_, hl⟩ := hst2.mem 9001 (.any (lpK (w.heap.size + 1) (rec .ready none))) rfl
  have hy := run_yield (P := P) (args := #[enc k]) hl (by rw [hrec]; rfl)
  rw [hrec] at hy
  obtain ⟨a0, ha0⟩ : ∃ a0 : Act, a0 = { tmps := a.tmps.setIfInBounds q (enc k), defers := [] } := ⟨_, rfl⟩
  have hap : a0 = a.put (some q) (enc k) := by rw [ha0]; show _ = ({ a with tmps := _ } : Act); rw [hst.df]
  have hsT : SameT (e'.map (·.1)) a a0 := by
   rw [hap]
   refine SameT.put (fun _ _ => rfl) ?_
   simp only [Bool.not_eq_true', List.any_eq_false]
   intro k' hk'
   have := List.all_eq_true.1 hqe k' hk'
   rw [Bool.not_eq_true'] at this
   show ¬ Nat.beq k' q = true
   rw [this]; decide
  refine ⟨fn, _, asg, body, hy, roundIn_of_wpIn hfn ?_⟩
  clear hy
  have hst3 : St N w0 O0 ((q, sp k) :: e') (rgM (w.heap.size + 1) (rec .ready none) Oc W ds' (frK O1 W1) (J k y)) O2 H2 a0 W2 := by
   rw [hap]
   exact ⟨hst2.df, by simp [Act.put, hst2.sz], hst2.bl, hst2.lab, put_slots hst2.sz hq (hsp k _ _ _) hst2.slots, hst2.mem⟩
  have hw := ww_offs hoa hsT (hbody k y (w.heap.size + 1) (rec .ready none) { rec .ready none with state := .busy } ds' (frK O1 W1) hk hpy (by omega) O2 H2 a0 W2 hst3)
  have hin := ww_in (n := 3 - 1 - 1) (l := w.heap.size + 1) (fun ⟨_, _, h⟩ => h.1) hna hw
  have hfold : ((#[q].zip #[enc k]).foldl (fun t (x : Tmp × Value) => t.setIfInBounds x.1 x.2) a.tmps) = a.tmps.setIfInBounds q (enc k) := by simp
  show asg.wpIn _ _ P _ { tmps := (#[q].zip #[enc k]).foldl (fun t (x : Tmp × Value) => t.setIfInBounds x.1 x.2) a.tmps, defers := [] } W2
  rw [hfold, ← ha0]
  refine wpIn_mono hin fun ex a1 w1 hq1 => ?_
  cases ex <;> try exact hq1.1
  case normal =>
   obtain ⟨⟨hl1, hq1⟩, hs1'⟩ := hq1
   have hs1' := hs1'.resolve_left (by simp)
   refine ⟨_, run_beginRound hl1 (by rw [hrec]), ?_⟩
   have hin2 := ww_in (n := 3 - 1 - 1) (l := w.heap.size + 1) (fun ⟨_, _, h⟩ => by cases h.1.1) hnb (ww_offs hob hs1' hq1)
   refine wpIn_mono hin2 fun ex a2 w2 hq2 => ?_
   obtain ⟨⟨rfl, y', O', H', hpy', hst'⟩, hs2⟩ := hq2
   have hs2 := hs2.resolve_left (by simp)
   obtain ⟨_, hl2⟩ := hst'.mem 9001 (.any (lpK (w.heap.size + 1) { rec .ready none with state := .busy })) rfl
   have hr := run_endRound (P := P) none hl2
   have hst4 := hst'.turn (r' := rec .ready none) (by omega)
   have e1 : ({ ({ rec .ready none with state := .busy } : Loop) with state := if (none : Option Code).isNone then .ready else .done, pending := none } : Loop) = rec .ready none := by rw [hrec]; rfl
   rw [e1] at hr
   have hj2 : J1 (k + 1) (w2.putObj (w.heap.size + 1) (.loop (rec .ready none))) := by
    rw [hJ1]
    exact ⟨y', O', H', hpy', hst.df, hst.sz, hst4.bl, hst4.lab, keysT hst4.slots hs2, hst4.mem⟩
   exact ⟨_, _, hr, rfl, hj2, fun b hb h0' => (hzero _ _ hj2 b hb h0').trans (hzero _ _ hj' b hb h0').symm⟩
 ·rintro en W3 ⟨⟨v, rfl⟩, hj⟩
  rw [hJ1] at hj
  obtain ⟨y, O3, H3, hpy, hst3⟩ := hj
  obtain ⟨_, hl⟩ := hst3.mem 9001 (.any (lpK (w.heap.size + 1) (rec .ready none))) rfl
  refine ⟨none, _, by have := run_endLoop (P := P) hl (by rw [hrec]; simp); rw [hrec] at this; exact this, a.wd ds', ?_, ?_⟩
  ·rw [hds', Act.wd_wd]
   show ({ tmps := _, defers := _ } : Act) = { tmps := _, defers := _ }
   simp [Act.wd, hst.df]
  ·have hst4 := hst3.turn (r' := { rec .ready none with state := .exhausted }) (by omega)
   rw [hrec] at hst4
   refine hrest y ds' hpy O3 H3 a _ ⟨hst4.df, hst4.sz, hst4.bl, hst4.lab, hst4.slots, fun m mo hm => hst4.mem m mo ?_⟩
   rcases look_cons hm with ⟨rfl, rfl⟩ | ⟨hne, hm'⟩
   ·rfl
   ·obtain ⟨g1, g2⟩ := hJ n y
    have n1 : m ≠ 9001 := fun e => by rw [e, g1] at hm'; cases hm'
    have n3 : m ≠ 9003 := fun e => by rw [e, g2] at hm'; cases hm'
    rw [look_skip n1, look_skip hne, look_skip n3]; exact hm'
end
end Go.Eng
end

section
namespace Go.Eng
section
variable {P : Program} {N : Nat} {w0 : World} {O0 : Nat → Nat} {ops : Array Oper} {Q : Post} {e : Env} {M : Mem} {rest : List Oper} {B : Nat} {o : Oper} {s : S} {c : Code} {ds : List Deferred}
theorem DoesM.of_bodyD {f : Nat} {args : List Value} {ds : Ds} {n : Nat} {F : Res} {R : Value → Res → Ds → Prop} {fn : Func} {c : Code} (hf : P.funcs[f]? = some fn) (hb : fn.body = some c) (hN : fn.ntmps = N) (hlen : args.length ≤ N)
    (can : ∀ xs w, (callFunc f xs).run P w = .ok (.enter f xs) w) (live : (∀ i, i < n → F i = noO) ∨ ∀ v F' ds', R v F' ds' → ∃ i b j, i < n ∧ j < n ∧ F i b ≠ none ∧ F' j b ≠ none)
    (h : ∀ (Oc : Nat → Nat) (W : World), TrD P N { W with heap := #[] } Oc [] (entry 0 (args.map fun v => S.d (.v v))) ((9002, .any (dsK Oc W [])) :: begM n F Oc W ds) c (bodyPostM Fence.wide 3 P fn (RetM Oc W n R))) : DoesM P f args ds n F R := by
  refine ⟨can, live, fun O w hv hd => callsIn_wide.1 (callsIn_of_wp_marks (n := 3) hf hb trivial (wpIn_wide.2 (ww_wp ?_)))⟩
  have hst := begM_st hv hd hlen
  have := h O w O (fun _ => undef) _ w ⟨hst.df, hst.sz, hst.bl, hst.lab, hst.slots, fun k m hm => by
    rcases look_cons hm with ⟨rfl, rfl⟩ | ⟨_, hm⟩
    · exact ⟨.nil, fun d hd => by cases hd⟩
    · exact hst.mem k m hm⟩
  rw [Act.wd_nil] at this
  rw [hN]; exact this
theorem leavesM {fn : Func} {tmps : Array Value} {R : Ending → World → Prop} : ∀ (ds : List Deferred) (w : World), ds.Pairwise (· ≠ ·) → (∀ d, d ∈ ds → ∃ D, d = cD D ∧ w.heap[D]? = some (.deferred (some []))) →
    (∀ w', (w'.os = w.os ∧ w'.tape = w.tape ∧ w'.output = w.output ∧ w'.heap.size = w.heap.size ∧ w.drawn ≤ w'.drawn) → (∀ b, cD b ∉ ds → w'.heap[b]? = w.heap[b]?) → ∃ v, (results fn tmps).run P w' = .ok v w' ∧ R (.returned v) w') → LeavesInM Fence.wide 3 P fn tmps R ds .returning w
  | [], w, _, _, h => by
    obtain ⟨v, h1, h2⟩ := h w ⟨rfl, rfl, rfl, rfl, Nat.le_refl _⟩ fun _ _ => rfl
    exact ⟨v, h1, h2⟩
  | d :: ds, w, hn, hd, h => by
    rw [List.pairwise_cons] at hn
    obtain ⟨D, rfl, hD⟩ := hd d (by simp)
    refine ⟨by simp, .inl ⟨D, _, rfl, run_takeDeferred hD, leavesM ds _ hn.2 (fun d' hd' => ?_) fun w' ⟨h1, h2, h3, h4, h5⟩ hb => h w' ⟨h1, h2, h3, by simpa using h4, h5⟩ fun b hb' => ?_⟩⟩
    · obtain ⟨D', rfl, h2⟩ := hd d' (by simp [hd'])
      refine ⟨D', rfl, (World.putObj_heap_other fun e => ?_).trans h2⟩
      exact hn.1 _ hd' (by rw [e])
    · simp only [List.mem_cons, not_or] at hb'
      exact (hb b hb'.2).trans (World.putObj_heap_other fun e => hb'.1 (by rw [e]))
theorem AtD.retM {Oc : Nat → Nat} {W : World} {n : Nat} {F' : Res} {ds' : Ds} {R : Value → Res → Ds → Prop} {fn : Func} {rs : List ResultVar} {l : List S} {x : Exit} {v : Value} (hx : x = .ret ∨ x = .normal) (hres : fn.results.toList = rs) (hl : RetL P e ((9002, .gone) :: M) rs l) (hv : ∀ H, valS H 9 (one l) = some v)
    (hM : HasM ((9002, .gone) :: M) (upTo n) F' 0) (hd : DsIn ((9002, .gone) :: M) ds') (hZ : look M 999 = some (.any (restK Oc W))) (hK : look M 1000 = some (.fr (frK Oc W))) (hds : look M 9002 = some (.any (dsK Oc W ds))) (hr : R v F' ds') : AtD N { W with heap := #[] } O0 ds e M x (bodyPostM Fence.wide 3 P fn (RetM Oc W n R)) := by
  intro O H a w hst
  obtain ⟨hn, hq⟩ := hst.mem 9002 _ hds
  have key : LeavesInM Fence.wide 3 P fn a.tmps (RetM Oc W n R) ds .returning w := by
    refine leavesM ds w hn (fun d hd => ?_) fun w' ⟨h1, h2, h3, h4, h5⟩ hb => ?_
    · obtain ⟨D, g1, _, g3, _⟩ := hq d hd; exact ⟨D, g1, g3⟩
    have hlab : ∀ b, O b ≠ 9003 → w'.heap[b]? = w.heap[b]? := fun b hne => hb b fun hm => by
      obtain ⟨D, g1, g2, _⟩ := hq _ hm
      simp only [cD, Deferred.mk.injEq, Target.collected.injEq, and_true] at g1
      subst g1; exact hne g2
    have hk : Keep (some 9002) none O H w O H w' := ⟨fun _ _ => rfl, fun b _ hne => hlab b fun e => hne 9002 rfl (by omega), fun _ _ => rfl⟩
    have hst' : St N { W with heap := #[] } O0 e ((9002, .gone) :: M) O H a w' := by
      refine ⟨hst.df, hst.sz, ⟨h1.trans hst.bl.os, h2.trans hst.bl.tape, h3.trans hst.bl.output, Nat.zero_le _, fun b hb => absurd hb (Nat.not_lt_zero b), Nat.le_trans hst.bl.drawn h5⟩, hst.lab, fun n s hs => ?_, fun m mo hm => ?_⟩
      · obtain ⟨y, hy, hr⟩ := hst.slots n s hs
        exact ⟨y, hy, hr.mono0 hk⟩
      · rcases look_cons hm with ⟨rfl, rfl⟩ | ⟨hne, hm⟩
        · trivial
        · exact (hst.mem m mo hm).mono hk (by intro e; cases e; exact hne rfl) (by simp) 0 (fun h he => by cases he) (.inl rfl)
    exact ⟨v, retVal hst' hres hl hv, hst'.retM hM hd (by rw [look_skip (by decide)]; exact hZ) (by rw [look_skip (by decide)]; exact hK) hr⟩
  have hdf : (a.wd ds).defers = ds := by show a.defers ++ ds = ds; rw [hst.df]; rfl
  rcases hx with rfl | rfl <;> (show LeavesInM _ _ _ _ _ _ (a.wd ds).defers _ _; rw [hdf]; exact key)
def TrY (P : Program) (N : Nat) (w0 : World) (O0 : Nat → Nat) (ops : Array Oper) (Q : Post) (e : Env) (M : Mem) (rest : List Oper) : Prop :=
  ∀ (O : Nat → Nat) (H : Nat → Value) (a : Act) (w : World), St N w0 O0 e M O H a w → wpListIn Fence.wide 2 P ops Q rest a w
theorem wpIn_ofW {P : Program} {o : Oper} {a : Act} {w : World} {K : Act → World → Prop} (h : o.wp P a w K (fun _ _ _ => False)) (n : Nat) (Q : Post) : o.wpIn Fence.wide n P a w K Q := by
  refine ⟨fun f _ => trivial, ?_⟩
  have hs : o.semAt Fence.wide.round a.eval = execOp a.eval o := rfl
  rw [hs]
  unfold Oper.wp at h
  generalize (execOp a.eval o).run P w = r at h
  cases r with
  | ok nx w' =>
    cases nx <;> simp only [Oper.upon, Oper.uponIn] at h ⊢ <;> first
      | exact h
      | exact h.elim
      | (refine ⟨fun hd => by simp [Fence.wide] at hd, callsIn_wide.2 (Calls.mono h fun e w'' he => ?_)⟩
         cases e with
         | returned v => exact he
         | panicked c => exact he.elim
         | outgrown => obtain ⟨_, _, h⟩ := he; exact h.elim)
      | exact ⟨fun hd => by simp [Fence.wide] at hd, fun c cs _ => let ⟨v, w', r, s⟩ := h c cs; ⟨v, w', r, stepsIn_wide.2 s⟩⟩
  | halt x w' => cases x <;> simp only [Oper.upon, Oper.uponIn] at h ⊢
abbrev YPost (P : Program) (ops : Array Oper) (Q : Post) (rest : List Oper) : Post := fun x a w => x = .normal ∧ wpListIn Fence.wide 2 P ops Q rest a w
theorem wpList_in : ∀ {pre : List Oper} {a : Act} {w : World}, wpList P ops (YPost P ops Q rest) pre a w → wpListIn Fence.wide 2 P ops Q (pre ++ rest) a w
  | [], a, w, h => h.2
  | o :: pre, a, w, h => by
    simp only [wpList] at h
    show wpListIn Fence.wide 2 P ops Q (o :: (pre ++ rest)) a w
    simp only [wpListIn]
    split
    · rename_i hw
      rw [if_pos hw] at h
      have h := h.resolve_right fun q => by obtain ⟨_, _, q⟩ := q.2; cases q.1
      refine wpIn_ofW ?_ 2 Q
      unfold Oper.wp at h ⊢
      generalize (execOp a.eval o).run P w = r at h
      cases r with
      | ok nx w' =>
        cases nx <;> simp only [Oper.upon] at h ⊢ <;> first
          | exact wpList_in h
          | exact h.elim
          | (refine Calls.mono h (fun e w'' he => ?_)
             cases e with
             | returned v => exact wpList_in he
             | panicked c => cases he.1
             | outgrown => obtain ⟨_, _, q⟩ := he; cases q.1)
          | exact Rows.mono h (fun _ _ he => wpList_in he)
      | halt x w' => cases x <;> simp only [Oper.upon] at h ⊢ <;> first | exact h | (cases h.1)
    · rename_i hw
      rw [if_neg hw] at h
      exact ⟨fun f _ => trivial, wpList_in h⟩
theorem TrY.pre {pre : List Oper} (h : TrOps P N w0 O0 ops (YPost P ops Q rest) e M pre) : TrY P N w0 O0 ops Q e M (pre ++ rest) := fun O H a w hst => wpList_in (h O H a w hst)
theorem At.yrest (h : TrY P N w0 O0 ops Q e M rest) : At N w0 O0 e M .normal (YPost P ops Q rest) := fun O H a w hst => ⟨rfl, h O H a w hst⟩
theorem At.yend (h : At N w0 O0 e M .normal Q) : At N w0 O0 e M .normal (YPost P ops Q []) := fun O H a w hst => ⟨rfl, h O H a w hst⟩
theorem TrY.fin {l : List Oper} (h : TrOps P N w0 O0 ops (YPost P ops Q []) e M l) : TrY P N w0 O0 ops Q e M l := by
  have := TrY.pre (rest := []) h
  rwa [List.append_nil] at this
def rawE (e : Env) : Bool := e.all fun p => match p.2 with | .d (.v _) => true | _ => false
theorem look_raw {e : Env} (hr : rawE e = true) {n : Nat} {s : S} (h : look e n = some s) : ∃ v, s = .d (.v v) := by
  have := List.all_eq_true.1 hr _ (look_mem h)
  cases s with
  | d x =>
    cases x with
    | v v => exact ⟨v, rfl⟩
    | s k rows => simp at this
  | _ => simp at this
theorem yieldOf' {a : Act} {w : World} {l : Nat} {g : Operand} {as_ : Array Operand} {ts : Array TypeId} {vs : List Value} (ho : o.op = .call { callee := .value g, args := as_, argTypes := ts }) (hg : a.eval g = .func (.yield l) #[] #[]) (ha : as_.toList.map a.eval = vs) :
    (execOp a.eval o).run P w = (Instr.yield l vs.toArray).run P w := by
  have : as_.map a.eval = vs.toArray := by rw [← ha]; apply Array.ext'; simp
  simp [execOp, ho, resolve, hg, Deferred.ofValue, invoke, this]
theorem TrY.yield {l d : Nat} {g x : Operand} {ts : Array TypeId} {v : Value} {sx : S} {Of : Nat → Nat} {k1 : Nat} {ds : Ds} {Z : World → Prop} (e' : Env) (ho : o.op = .call { callee := .value g, args := #[x], argTypes := ts }) (hgd : o.guard = none) (hd : o.dst = some d) (hdN : d < N)
    (hg : opS e g = some (.d (.v (.func (.yield l) #[] #[])))) (hx : opS e x = some sx) (hv : ∀ H, valS H 9 sx = some v) (he : Sub e M e' []) (hr : rawE e' = true)
    (hY : ∀ w, Below w0.heap.size w0 w → YieldAt Fence.wide 1 P l #[v] w fun en W' => en = .returned (.bool true) ∧ Z W') (hZ : ∀ W', Z W' → ∀ p, p ∈ ds → ∀ H, RepS Of H W' p.1 p.2)
    (hc : ∀ W', Z W' → TrY P N W' Of ops Q ((d, .d (.v (.bool true))) :: e') [(k1, .fr (dsS ds))] rest) : TrY P N w0 O0 ops Q e M (o :: rest) := by
  intro O H a w hst
  refine wpListIn_plain hgd fun K hK => ?_
  obtain ⟨fn, tmps, assign, body, hrun, hR⟩ := hY w hst.bl
  have hg' := rep_v (hst.slotsAt #[g] g (by simp) _ hg)
  have hx' := valS_rep 9 (hst.slotsAt #[x] x (by simp) _ hx) (hv H)
  refine ⟨fun f _ => trivial, ?_⟩
  have hsm : o.semAt Fence.wide.round a.eval = execOp a.eval o := rfl
  rw [hsm, yieldOf' (vs := [v]) ho hg' (by simp [hx']), hrun, Oper.uponIn_round]
  refine ⟨fun h => by simp [Fence.wide] at h, hR.mono ?_⟩
  rintro en w' ⟨rfl, hz⟩
  refine hK _ _ (hc w' hz Of (fun _ => undef) _ _ ⟨?_, ?_, .refl _ _, fun _ _ => rfl, ?_, fun m mo hm => ?_⟩)
  · rw [hd]; exact hst.df
  · rw [hd]; simp [Act.put, hst.sz]
  · rw [hd]
    refine put_slots hst.sz hdN (.d _ _ (.v _)) fun n s hl => ?_
    obtain ⟨u, rfl⟩ := look_raw hr hl
    obtain ⟨y, hy, hyr⟩ := (he.st hst).slots n _ hl
    exact ⟨y, hy, by rw [rep_v hyr]; exact .d _ _ (.v _)⟩
  · rcases look_cons hm with ⟨rfl, rfl⟩ | ⟨_, hm⟩
    · exact hZ w' hz
    · cases hm
def TrP (P : Program) (N : Nat) (w0 : World) (O0 : Nat → Nat) (e : Env) (M : Mem) (c : Code) (Q : Post) : Prop :=
  ∀ (O : Nat → Nat) (H : Nat → Value) (a : Act) (w : World), St N w0 O0 e M O H a w → c.wp P Q a w
theorem TrP.of (h : Tr P N w0 O0 e M c Q) : TrP P N w0 O0 e M c Q := fun O H a w hst => ww_wp (h O H a w hst)
theorem TrP.regionY {id : Nat} {l : List Oper} (h : TrY P N w0 O0 l.toArray Q e M l) : TrP P N w0 O0 e M (.region id l.toArray false) Q :=
  fun O H a w hst => (wpIn_wide (n := 2)).1 (wpIn_region_lit (h O H a w hst))
theorem TrP.seq {c d : Code} (h : TrP P N w0 O0 e M c (Exit.then (d.wp P Q) Q)) : TrP P N w0 O0 e M (.seq c d) Q := fun O H a w hst => wp_seq (h O H a w hst)
theorem TrP.block {id : Nat} {c : Code} (h : TrP P N w0 O0 e M c (Exit.inBlock id Q)) : TrP P N w0 O0 e M (.block id c) Q := fun O H a w hst => wp_block (h O H a w hst)
theorem TrP.cond {c : Operand} {x y : Code} {b : Bool} (hc : opS e c = some (.d (.v (.bool b)))) (ht : b = true → TrP P N w0 O0 e M x Q) (hf : b = false → TrP P N w0 O0 e M y Q) : TrP P N w0 O0 e M (.cond c x y) Q := by
  intro O H a w hst
  exact wp_cond_split (t := b) (rep_v (hst.slotsAt #[c] c (by simp) _ hc)) (fun h => ht h O H a w hst) (fun h => hf h O H a w hst)
theorem AtP.seq {c : Code} (h : TrP P N w0 O0 e M c Q) : At N w0 O0 e M .normal (Exit.then (c.wp P Q) Q) := h
theorem TrP.loopI {c : Code} (I : Nat → Act → World → Prop) (m0 : Nat) (h0 : ∀ (O : Nat → Nat) (H : Nat → Value) (a : Act) (w : World), St N w0 O0 e M O H a w → I m0 a w)
    (hb : ∀ m a w, I m a w → c.wp P (Exit.then (fun a' w' => ∃ m', m' < m ∧ I m' a' w') Q) a w) : TrP P N w0 O0 e M (.loop c) Q := fun O H a w hst => wp_loop_ghost I m0 (h0 O H a w hst) hb
end
end Go.Eng
end

section
namespace Go.Eng
theorem nth_I {α : Type} [Inhabited α] {l : List α} {i : Int} (h : i.toNat < l.length) : nth l i = l[i.toNat] := by unfold nth; simp [h]
theorem HasM.nil {M : Mem} {F : Res} {i : Nat} : HasM M [] F i := trivial
theorem HasM.cons {M : Mem} {F : Res} {h i : Nat} {hs : List Nat} (h1 : look M h = some (poM (F i))) (t : HasM M hs F (i + 1)) : HasM M (h :: hs) F i := ⟨h1, t⟩
structure QEnt where
 blk : Nat
 item : Nat
 key : Int
 time : Int
 pos : Int
 ty : Nat
 deriving Inhabited
def QEnt.mv (x : QEnt) (i : Int) : QEnt := ⟨x.blk, x.item, x.key, x.time, i, x.ty⟩
def QEnt.core (x : QEnt) : Nat × Nat × Int × Int := (x.blk, x.item, x.key, x.time)
def entC (x : QEnt) : List Value := [u32 x.item, .int .i64 x.key, .int .i64 x.time, .int .i64 x.pos]
def arrV (A : List QEnt) : List Value := A.map fun x => ptr x.blk 0
def enF (A : List QEnt) : HP := fun b => (A.find? fun x => decide (x.blk = b)).map fun x => .c x.ty (entC x)
def NdE (A : List QEnt) : Prop := (A.map (·.blk)).Nodup
theorem NdE.uniq {A : List QEnt} (h : NdE A) {i j : Nat} (hi : i < A.length) (hj : j < A.length) (he : (nth A i).blk = (nth A j).blk) : i = j := by
 have h1 : (A.map (·.blk))[i]'(by simpa using hi) = (A.map (·.blk))[j]'(by simpa using hj) := by
  rw [nth_eq hi, nth_eq hj] at he; simpa using he
 exact (List.getElem_inj h).1 h1
theorem ent_find {A : List QEnt} (h : NdE A) {x : QEnt} (hx : x ∈ A) : (A.find? fun y => decide (y.blk = x.blk)) = some x := by
 obtain ⟨i, hi, rfl⟩ := List.getElem_of_mem hx
 cases hf : A.find? fun y => decide (y.blk = A[i].blk) with
 | none =>
  have := List.find?_eq_none.1 hf A[i] (List.getElem_mem hi)
  simp at this
 | some y =>
  have h1 := List.find?_some hf
  obtain ⟨j, hj, rfl⟩ := List.getElem_of_mem (List.mem_of_find?_eq_some hf)
  simp only [decide_eq_true_eq] at h1
  have := h.uniq hj hi (by rw [nth_eq hj, nth_eq hi]; exact h1)
  subst this; rfl
theorem ent_at {A : List QEnt} (h : NdE A) {i : Int} (h0 : 0 ≤ i) (h1 : i < A.length) : enF A (nth A i).blk = some (.c (nth A i).ty (entC (nth A i))) := by
 unfold enF
 rw [ent_find h (nth_mem h0 h1)]; rfl
theorem ent_mem {A : List QEnt} (h : NdE A) {x : QEnt} (hx : x ∈ A) : enF A x.blk = some (.c x.ty (entC x)) := by
 unfold enF
 rw [ent_find h hx]; rfl
theorem ent_none {A : List QEnt} {b : Nat} (h : ∀ x, x ∈ A → x.blk ≠ b) : enF A b = none := by
 unfold enF
 rw [List.find?_eq_none.2 fun x hx => by simpa using h x hx]; rfl
theorem ent_some {A : List QEnt} {b : Nat} {y : OB} (h : enF A b = some y) : ∃ x, x ∈ A ∧ x.blk = b ∧ y = .c x.ty (entC x) := by
 unfold enF at h
 obtain ⟨x, hx, rfl⟩ := Option.map_eq_some_iff.1 h
 have := List.find?_some hx
 exact ⟨x, List.mem_of_find?_eq_some hx, by simpa using this, rfl⟩
theorem ent_eq {A B : List QEnt} (hA : NdE A) (hB : NdE B) (h : ∀ x, x ∈ A ↔ x ∈ B) : enF A = enF B := by
 funext b
 cases he : enF A b with
 | some y => obtain ⟨x, hx, rfl, rfl⟩ := ent_some he; rw [ent_mem hB ((h x).1 hx)]
 | none =>
  cases he' : enF B b with
  | none => rfl
  | some y => obtain ⟨x, hx, rfl, rfl⟩ := ent_some he'; rw [ent_mem hA ((h x).2 hx)] at he; cases he
theorem nd_set {A : List QEnt} (h : NdE A) {i : Int} {y : QEnt} (h0 : 0 ≤ i) (h1 : i < A.length) (hy : y.blk = (nth A i).blk) : NdE (A.set i.toNat y) := by
 unfold NdE
 have : (A.set i.toNat y).map (·.blk) = A.map (·.blk) := by
  rw [List.map_set, hy]
  have hlt : i.toNat < A.length := by omega
  have e : (nth A i).blk = (A.map (·.blk))[i.toNat]'(by simpa using hlt) := by
   rw [nth_I hlt]; simp
  rw [e, List.set_getElem_self]
 rw [this]; exact h
theorem nth_setZ {α : Type} [Inhabited α] {l : List α} {i j : Int} {v : α} (h0 : 0 ≤ i) (k0 : 0 ≤ j) (k1 : j < l.length) : nth (l.set i.toNat v) j = if j = i then v else nth l j := by
 have hlt : j.toNat < l.length := by omega
 unfold nth
 simp only [List.getD_eq_getElem?_getD, List.getElem?_set]
 by_cases h : i.toNat = j.toNat
 ·rw [if_pos h, if_pos (by omega : j = i), if_pos (by omega)]; rfl
 ·rw [if_neg h, if_neg (by omega)]
theorem ent_set {A : List QEnt} (h : NdE A) {i : Int} {y : QEnt} (h0 : 0 ≤ i) (h1 : i < A.length) (hy : y.blk = (nth A i).blk) : updO (enF A) (nth A i).blk (.c y.ty (entC y)) = enF (A.set i.toNat y) := by
 have hN := nd_set h h0 h1 hy
 have hl : i < (A.set i.toNat y).length := by simpa using h1
 have hi : nth (A.set i.toNat y) i = y := by rw [nth_setZ h0 h0 h1, if_pos rfl]
 funext b
 unfold updO
 by_cases hb : b = (nth A i).blk
 ·rw [if_pos hb, hb]
  have := ent_at hN h0 hl
  rw [hi, hy] at this
  exact this.symm
 ·rw [if_neg hb]
  cases he : enF A b with
  | some z =>
   obtain ⟨x, hx, rfl, rfl⟩ := ent_some he
   obtain ⟨j, hj, rfl⟩ := List.getElem_of_mem hx
   have hne : j ≠ i.toNat := fun e => hb (by subst e; rw [nth_I hj])
   have hm : A[j] ∈ A.set i.toNat y := by
    have : (A.set i.toNat y)[j]'(by simpa using hj) = A[j] := List.getElem_set_ne (fun e => hne e.symm) _
    rw [← this]; exact List.getElem_mem _
   rw [ent_mem hN hm]
  | none =>
   symm
   refine ent_none fun x hx e => ?_
   rcases List.mem_or_eq_of_mem_set hx with hx | rfl
   ·rw [← e, ent_mem h hx] at he; cases he
   ·exact hb (by rw [← e, hy])
def swL (A : List QEnt) (i k : Int) : List QEnt := (A.set i.toNat (nth A k)).set k.toNat (nth A i)
def swE (A : List QEnt) (i k : Int) : List QEnt := ((swL A i k).set i.toNat ((nth (swL A i k) i).mv i)).set k.toNat ((nth ((swL A i k).set i.toNat ((nth (swL A i k) i).mv i)) k).mv k)
theorem swL_len {A : List QEnt} {i k : Int} : (swL A i k).length = A.length := by simp [swL]
theorem swE_len {A : List QEnt} {i k : Int} : (swE A i k).length = A.length := by simp [swE, swL_len]
section
variable {A : List QEnt} {i k : Int} (h0 : 0 ≤ i) (h1 : i < A.length) (k0 : 0 ≤ k) (k1 : k < A.length)
include h0 h1 k0 k1
theorem swL_nth {j : Int} (j0 : 0 ≤ j) (j1 : j < A.length) : nth (swL A i k) j = if j = k then nth A i else if j = i then nth A k else nth A j := by
 unfold swL
 rw [nth_setZ k0 j0 (by simpa using j1), nth_setZ h0 j0 j1]
theorem swL_nd (h : NdE A) : NdE (swL A i k) := by
 unfold NdE
 rw [List.Nodup, List.pairwise_iff_getElem]
 intro a b ha hb hab he
 simp only [List.length_map, swL_len] at ha hb
 have e : ∀ c : Nat, (hc : c < A.length) → ((swL A i k).map (·.blk))[c]'(by simpa [swL_len] using hc) = (nth (swL A i k) (c : Int)).blk := fun c hc => by
  rw [nth_eq (by simpa [swL_len] using hc)]; simp
 rw [e a ha, e b hb, swL_nth h0 h1 k0 k1 (by omega) (by omega), swL_nth h0 h1 k0 k1 (by omega) (by omega)] at he
 obtain ⟨x, rfl⟩ := Int.eq_ofNat_of_zero_le h0
 obtain ⟨y, rfl⟩ := Int.eq_ofNat_of_zero_le k0
 have U := fun (p q : Nat) (hp : p < A.length) (hq : q < A.length) (e : (nth A (p : Int)).blk = (nth A (q : Int)).blk) => h.uniq hp hq e
 by_cases c1 : (a : Int) = y <;> by_cases c2 : (b : Int) = y
 ·omega
 ·rw [if_pos c1, if_neg c2] at he
  by_cases c3 : (b : Int) = x
  ·rw [if_pos c3] at he; have := U _ _ (by omega) (by omega) he; omega
  ·rw [if_neg c3] at he; have := U _ _ (by omega) (by omega) he; omega
 ·rw [if_neg c1, if_pos c2] at he
  by_cases c3 : (a : Int) = x
  ·rw [if_pos c3] at he; have := U _ _ (by omega) (by omega) he; omega
  ·rw [if_neg c3] at he; have := U _ _ (by omega) (by omega) he; omega
 ·rw [if_neg c1, if_neg c2] at he
  by_cases c3 : (a : Int) = x <;> by_cases c4 : (b : Int) = x
  ·omega
  ·rw [if_pos c3, if_neg c4] at he; have := U _ _ (by omega) (by omega) he; omega
  ·rw [if_neg c3, if_pos c4] at he; have := U _ _ (by omega) (by omega) he; omega
  ·rw [if_neg c3, if_neg c4] at he; have := U _ _ (by omega) (by omega) he; omega
theorem swL_mem {x : QEnt} : x ∈ swL A i k ↔ x ∈ A := by
 have hk : nth (swL A i k) k = nth A i := by rw [swL_nth h0 h1 k0 k1 k0 k1, if_pos rfl]
 constructor
 ·intro hx
  obtain ⟨j, hj, rfl⟩ := List.getElem_of_mem hx
  rw [swL_len] at hj
  have := swL_nth h0 h1 k0 k1 (j := (j : Int)) (by omega) (by omega)
  rw [nth_eq (by simpa [swL_len] using hj)] at this
  rw [this]
  split
  ·exact nth_mem h0 h1
  ·split
   ·exact nth_mem k0 k1
   ·exact nth_mem (by omega) (by omega)
 ·intro hx
  obtain ⟨j, hj, rfl⟩ := List.getElem_of_mem hx
  have hm : ∀ c : Int, 0 ≤ c → c < A.length → nth (swL A i k) c ∈ swL A i k := fun c c0 c1 => nth_mem c0 (by rw [swL_len]; exact c1)
  have e := nth_eq hj
  rw [← e]
  by_cases c1 : (j : Int) = i
  ·rw [c1, ← hk]; exact hm k k0 k1
  ·by_cases c2 : (j : Int) = k
   ·have := swL_nth h0 h1 k0 k1 h0 h1
    by_cases c3 : i = k
    ·exact absurd (c2.trans c3.symm) c1
    ·rw [if_neg c3, if_pos rfl] at this
     rw [c2, ← this]; exact hm i h0 h1
   ·have := swL_nth h0 h1 k0 k1 (j := (j : Int)) (by omega) (by omega)
    rw [if_neg c2, if_neg c1] at this
    rw [← this]; exact hm _ (by omega) (by omega)
theorem swL_ent (h : NdE A) : enF (swL A i k) = enF A := ent_eq (swL_nd h0 h1 k0 k1 h) h fun x => swL_mem h0 h1 k0 k1
theorem swL_arr {tl : List Value} : ((arrV A ++ tl).set i.toNat (ptr (nth A k).blk 0)).set k.toNat (ptr (nth A i).blk 0) = arrV (swL A i k) ++ tl := by
 have hi : i.toNat < (arrV A).length := by simp [arrV]; omega
 have hk : k.toNat < (arrV A).length := by simp [arrV]; omega
 rw [List.set_append_left _ _ hi, List.set_append_left _ _ (by simpa using hk)]
 simp [arrV, swL, List.map_set]
end
theorem arr_at {A : List QEnt} {tl : List Value} {i : Int} (h0 : 0 ≤ i) (h1 : i < A.length) : (arrV A ++ tl)[0 + i.toNat * 1]? = some (ptr (nth A i).blk 0) := by
 have hlt : i.toNat < A.length := by omega
 rw [Nat.zero_add, Nat.mul_one, List.getElem?_append_left (by simpa [arrV] using hlt)]
 simp only [arrV, List.getElem?_map, List.getElem?_eq_getElem hlt, Option.map_some]
 rw [nth_I hlt]
def PosE (A : List QEnt) : Prop := ∀ i : Nat, i < A.length → (nth A i).pos = i
def SameE (A B : List QEnt) : Prop := (A.map QEnt.core).Perm (B.map QEnt.core)
theorem SameE.len {A B : List QEnt} (h : SameE A B) : A.length = B.length := by simpa using h.length_eq
theorem SameE.nd {A B : List QEnt} (h : SameE A B) (hA : NdE A) : NdE B := by
 have e : ∀ C : List QEnt, C.map (·.blk) = (C.map QEnt.core).map (·.1) := fun C => by rw [List.map_map]; rfl
 unfold NdE at *
 rw [e] at hA ⊢
 exact (h.map _).nodup_iff.1 hA
section
variable {A : List QEnt} {i k : Int} (h0 : 0 ≤ i) (h1 : i < A.length) (k0 : 0 ≤ k) (k1 : k < A.length)
include h0 h1 k0 k1
theorem swL_perm : (swL A i k).Perm A ∨ ¬ NdE A := by
 by_cases h : NdE A
 ·refine .inl ?_
  have n1 : (swL A i k).Nodup := List.Pairwise.of_map (·.blk) (fun a b hab e => hab (by rw [e])) (swL_nd h0 h1 k0 k1 h)
  have n2 : A.Nodup := List.Pairwise.of_map (·.blk) (fun a b hab e => hab (by rw [e])) h
  exact (List.perm_ext_iff_of_nodup n1 n2).2 fun x => swL_mem h0 h1 k0 k1
 ·exact .inr h
end
theorem map_set_core {A : List QEnt} {i : Int} {y : QEnt} (h0 : 0 ≤ i) (h1 : i < A.length) (hy : y.core = (nth A i).core) : (A.set i.toNat y).map QEnt.core = A.map QEnt.core := by
 have hlt : i.toNat < A.length := by omega
 rw [List.map_set, hy]
 have e : (nth A i).core = (A.map QEnt.core)[i.toNat]'(by simpa using hlt) := by
  rw [nth_I hlt]; simp
 rw [e, List.set_getElem_self]
section
variable {A : List QEnt} {i k : Int} (h0 : 0 ≤ i) (h1 : i < A.length) (k0 : 0 ≤ k) (k1 : k < A.length)
include h0 h1 k0 k1
theorem swE_same (h : NdE A) : SameE A (swE A i k) := by
 unfold SameE swE
 have l1 : i < (swL A i k).length := by rw [swL_len]; exact h1
 rw [map_set_core (A := (swL A i k).set i.toNat ((nth (swL A i k) i).mv i)) (y := ((nth ((swL A i k).set i.toNat ((nth (swL A i k) i).mv i)) k).mv k)) k0 (by rw [List.length_set, swL_len]; exact k1) rfl, map_set_core (A := swL A i k) (y := ((nth (swL A i k) i).mv i)) h0 l1 rfl]
 exact ((swL_perm h0 h1 k0 k1).resolve_right fun n => n h).symm.map _
theorem swE_pos (hp : PosE A) : PosE (swE A i k) := fun j hj => by
 rw [swE_len] at hj
 have hl : (swL A i k).length = A.length := swL_len
 unfold swE
 rw [nth_setZ k0 (by omega) (by rw [List.length_set, hl]; omega)]
 split
 ·rename_i e; exact e.symm
 ·rw [nth_setZ h0 (by omega) (by rw [hl]; omega)]
  split
  ·rename_i e; exact e.symm
  ·rename_i e1 e2
   rw [swL_nth h0 h1 k0 k1 (by omega) (by omega), if_neg e1, if_neg e2]
   exact hp j hj
theorem swE_arr : arrV (swE A i k) = arrV (swL A i k) := by
 have hl : (swL A i k).length = A.length := swL_len
 have key : ∀ (C : List QEnt) (j : Int) (y : QEnt), 0 ≤ j → j < C.length → y.blk = (nth C j).blk → arrV (C.set j.toNat y) = arrV C := fun C j y j0 j1 hy => by
  have hlt : j.toNat < C.length := by omega
  unfold arrV
  rw [List.map_set, hy]
  have e : ptr (nth C j).blk 0 = (C.map fun x => ptr x.blk 0)[j.toNat]'(by simpa using hlt) := by
   rw [nth_I hlt]; simp
  rw [e, List.set_getElem_self]
 unfold swE
 rw [key ((swL A i k).set i.toNat ((nth (swL A i k) i).mv i)) k ((nth ((swL A i k).set i.toNat ((nth (swL A i k) i).mv i)) k).mv k) k0 (by rw [List.length_set, hl]; exact k1) rfl, key (swL A i k) i ((nth (swL A i k) i).mv i) h0 (by rw [hl]; exact h1) rfl]
end
section
variable {P : Program} {B : Nat} {o : Oper} {e : Env} {M : Mem}
theorem OpSem.lenPl {x : Operand} {t k n : Nat} {p : Pl} (ho : o.op = .call { callee := .builtin .len, args := #[x], argTypes := #[t] }) (hx : opS e x = some (.d (.v (plV p n)))) (ht : esz P t = some k) (hp : p = none → n = 0) : OpSem P B o e M (.d (.v (.int .i64 n))) none := by
 cases p with
 | none => have := hp rfl; subst this; exact .lenv ho hx ht
 | some q => exact .lenv (a0 := some ⟨q.1, 0, none⟩) (cap := q.2.1) ho hx ht
end
section
variable {P : Program} {N : Nat} {w0 : World} {O0 : Nat → Nat} {ops : Array Oper} {Q : Post} {e : Env} {M : Mem} {rest : List Oper} {o : Oper}
theorem TrOps.appendO1 {x y : Operand} {t h T d by_ n : Nat} {p : Pl} {l : List Value} {v : Value} {zs : List Value} (ho : o.op = .call { callee := .builtin .append, args := #[x, y], argTypes := #[t, t] }) (hg : o.guard = none) (hd : o.dst = some d) (hdN : d < N)
  (hx : opS e x = some (.d (.v (plV p n)))) (hM : look M h = some (poM (plMe T p l))) (hy : opS e y = some (.d (.s 1 [[.v v]]))) (hk : esz P t = some 1) (hT : P.elem t = T) (hz : zcells P T = some zs) (hzk : zs.length = 1) (hby : P.bytesOf T = by_)
  (hl : l.length = n) (hw : ∀ u, u ∈ l → u.oneCell' = true) (h1 : v.oneCell' = true) (hlen : (n + 1) ≤ maxLen) (hroom : (n + 1) * by_ ≤ 140737488355328) (hok : PlOk p 1 n l)
  (hn : ∀ (b cap : Nat) (tl : List Value), PlOk (some (b, cap, tl)) 1 (n + 1) (l ++ [v]) → TrOps P N w0 O0 ops Q ((d, .d (.v (slc b (n + 1) cap))) :: e) ((h, poM (oneO b (.c T (l ++ [v] ++ tl)))) :: M) rest) : TrOps P N w0 O0 ops Q e M (o :: rest) := by
 subst hl
 have e1 : (l.map fun v => [v]).length = l.length := by simp
 have e2 : (l.map fun v => [v]).flatten = l := by
  clear hx hM hw hlen hroom hok hn e1
  induction l with
  | nil => rfl
  | cons a l ih => rw [List.map_cons, List.flatten_cons, ih]; rfl
 refine TrOps.appendO (p := p) (rows := l.map fun v => [v]) (r := [v]) ho hg hd hdN (by rw [e1]; exact hx) (by rw [e2]; exact hM) hy hk hT hz hzk hby (fun r hr => ?_) rfl (fun u hu => by simp at hu; rw [hu]; exact h1) (by rw [e1]; exact hlen) (by rw [e1]; exact hroom) (by rw [e1, e2]; exact hok) fun b cap tl hp => ?_
 ·obtain ⟨u, hu, rfl⟩ := List.mem_map.1 hr
  exact ⟨rfl, fun z hz => by simp at hz; rw [hz]; exact hw u hu⟩
 ·rw [e1, e2] at hp ⊢
  exact hn b cap tl hp
end
theorem arrV_one {A : List QEnt} : ∀ u, u ∈ arrV A → u.oneCell' = true := fun u hu => by
 obtain ⟨x, _, rfl⟩ := List.mem_map.1 hu; rfl
theorem arrV_app {A : List QEnt} {x : QEnt} : arrV A ++ [ptr x.blk 0] = arrV (A ++ [x]) := by simp [arrV]
theorem nth_last {α : Type} [Inhabited α] {A : List α} {x : α} : nth (A ++ [x]) (A.length : Int) = x := by simp [nth]
theorem ent_app {A : List QEnt} {x : QEnt} {i : Int} (h : NdE (A ++ [x])) : updO (enF (A ++ [x])) x.blk (.c x.ty (entC (x.mv i))) = enF (A ++ [x.mv i]) := by
 have := ent_set h (i := (A.length : Int)) (y := x.mv i) (by omega) (by simp; omega) (by rw [nth_last]; rfl)
 rw [nth_last] at this
 refine this.trans ?_
 congr 1
 simp
theorem ent_in {A : List QEnt} {x : QEnt} (h : NdE (A ++ [x])) : enF (A ++ [x]) x.blk = some (.c x.ty (entC x)) := ent_mem h (by simp)
structure QOk (A : List QEnt) : Prop where
 nd : NdE A
 pos : PosE A
theorem QOk.sw {A : List QEnt} {i k : Int} (h : QOk A) (h0 : 0 ≤ i) (h1 : i < A.length) (k0 : 0 ≤ k) (k1 : k < A.length) : QOk (swE A i k) ∧ SameE A (swE A i k) :=
 ⟨⟨(swE_same h0 h1 k0 k1 h.nd).nd h.nd, swE_pos h0 h1 k0 k1 h.pos⟩, swE_same h0 h1 k0 k1 h.nd⟩
theorem SameE.trans {A B C : List QEnt} (h : SameE A B) (k : SameE B C) : SameE A C := List.Perm.trans h k
theorem SameE.refl (A : List QEnt) : SameE A A := List.Perm.refl _
theorem arr_last {A : List QEnt} {x : QEnt} {tl : List Value} {n : Nat} (hn : A.length = n) : (arrV (A ++ [x]) ++ tl)[0 + (((n + 1 : Nat) : Int) - 1).toNat * 1]? = some (ptr x.blk 0) := by
 have := arr_at (A := A ++ [x]) (tl := tl) (i := (A.length : Int)) (by omega) (by simp; omega)
 rw [nth_last] at this
 have e : (((n + 1 : Nat) : Int) - 1).toNat = (A.length : Int).toNat := by omega
 rw [e]; exact this
theorem QOk.push {A : List QEnt} {e : QEnt} {n : Nat} (h : QOk A) (hN : NdE (A ++ [e])) (hn : A.length = n) : QOk (A ++ [e.mv n]) ∧ SameE (A ++ [e]) (A ++ [e.mv n]) := by
 subst hn
 have hs : SameE (A ++ [e]) (A ++ [e.mv A.length]) := by
  unfold SameE
  simp [QEnt.core, QEnt.mv]
 refine ⟨⟨hs.nd hN, fun i hi => ?_⟩, hs⟩
 simp only [List.length_append, List.length_singleton] at hi
 by_cases h1 : i < A.length
 ·have : nth (A ++ [e.mv A.length]) (i : Int) = nth A (i : Int) := by
   rw [nth_eq (by simp; omega), nth_eq h1]; exact List.getElem_append_left h1
  rw [this]; exact h.pos i h1
 ·have : i = A.length := by omega
  subst this
  rw [nth_last]; rfl
theorem PlOk.same {p : Pl} {k n : Nat} {l l' : List Value} (h : PlOk p k n l) (hl : l.length = l'.length) : PlOk p k n l' :=
 ⟨h.e, by rw [← hl]; exact h.len, fun b cap tl e => by have := h.s b cap tl e; simpa [List.length_append, hl] using this⟩
theorem arrV_len {A : List QEnt} : (arrV A).length = A.length := by simp [arrV]
theorem PlOk.some {p : Pl} {k n : Nat} {l : List Value} (h : PlOk p k n l) (hn : n ≠ 0) : ∃ b cap tl, p = some (b, cap, tl) := by
 cases p with
 | none => exact absurd (h.e rfl) hn
 | some q => exact ⟨q.1, q.2.1, q.2.2, rfl⟩
theorem snoc {α : Type} {A : List α} {n : Nat} (h : A.length = n + 1) : ∃ A' x, A = A' ++ [x] ∧ A'.length = n := by
 have hne : A ≠ [] := fun e => by rw [e] at h; cases h
 exact ⟨A.dropLast, A.getLast hne, (List.dropLast_concat_getLast hne).symm, by simp [h]⟩
structure MapQ (A : List QEnt) (m : List (Int × Value)) : Prop where
 i : ∀ x, x ∈ A → lookI m x.item = some (ptr x.blk 0)
 o : ∀ k v, lookI m k = some v → ∃ x, x ∈ A ∧ (x.item : Int) = k ∧ v = ptr x.blk 0
theorem MapQ.one {A : List QEnt} {m : List (Int × Value)} (h : MapQ A m) (hN : NdE A) {x y : QEnt} (hx : x ∈ A) (hy : y ∈ A) (he : x.item = y.item) : x = y := by
 have h1 := h.i x hx
 rw [he, h.i y hy] at h1
 simp only [Option.some.injEq, Value.pointer.injEq, Addr.mk.injEq, and_true] at h1
 obtain ⟨i, hi, rfl⟩ := List.getElem_of_mem hx
 obtain ⟨j, hj, rfl⟩ := List.getElem_of_mem hy
 have := hN.uniq hi hj (by rw [nth_eq hi, nth_eq hj]; exact h1.symm)
 subst this; rfl
def QHas (A : List QEnt) (it : Nat) (k : Int) : Prop := ∃ x, x ∈ A ∧ x.item = it ∧ x.key = k
theorem SameE.mem {A B : List QEnt} (h : SameE A B) {x : QEnt} (hx : x ∈ A) : ∃ y, y ∈ B ∧ y.core = x.core := by
 have := h.mem_iff.1 (List.mem_map.2 ⟨x, hx, rfl⟩)
 obtain ⟨y, h1, h2⟩ := List.mem_map.1 this
 exact ⟨y, h1, h2⟩
theorem SameE.symm {A B : List QEnt} (h : SameE A B) : SameE B A := List.Perm.symm h
theorem core_eq {x y : QEnt} (h : x.core = y.core) : x.blk = y.blk ∧ x.item = y.item ∧ x.key = y.key ∧ x.time = y.time := by
 simpa [QEnt.core] using h
theorem SameE.has {A B : List QEnt} (h : SameE A B) {it : Nat} {k : Int} : QHas A it k ↔ QHas B it k := by
 constructor
 ·rintro ⟨x, hx, rfl, rfl⟩
  obtain ⟨y, hy, he⟩ := h.mem hx
  obtain ⟨_, h1, h2, _⟩ := core_eq he
  exact ⟨y, hy, h1, h2⟩
 ·rintro ⟨x, hx, rfl, rfl⟩
  obtain ⟨y, hy, he⟩ := h.symm.mem hx
  obtain ⟨_, h1, h2, _⟩ := core_eq he
  exact ⟨y, hy, h1, h2⟩
theorem SameE.map {A B : List QEnt} {m : List (Int × Value)} (h : SameE A B) (hm : MapQ A m) : MapQ B m := by
 refine ⟨fun x hx => ?_, fun k v hv => ?_⟩
 ·obtain ⟨y, hy, he⟩ := h.symm.mem hx
  obtain ⟨h1, h2, _, _⟩ := core_eq he
  rw [← h1, ← h2]; exact hm.i y hy
 ·obtain ⟨x, hx, h1, h2⟩ := hm.o k v hv
  obtain ⟨y, hy, he⟩ := h.mem hx
  obtain ⟨e1, e2, _, _⟩ := core_eq he
  exact ⟨y, hy, by rw [e2]; exact h1, by rw [e1]; exact h2⟩
section
variable {P : Program} {N : Nat} {w0 : World} {O0 : Nat → Nat} {ops : Array Oper} {Q : Post} {e : Env} {M : Mem} {rest : List Oper} {o : Oper} {c : Code}
theorem Tr.eqV (n : Nat) {v v' : Value} (hn : look e n = some (.d (.v v))) (he : v = v') (h : Tr P N w0 O0 ((n, .d (.v v')) :: e) M c Q) : Tr P N w0 O0 e M c Q := by
 subst he
 exact fun O H a w hst => h O H a w ⟨hst.df, hst.sz, hst.bl, hst.lab, fun m s hs => by
  rcases look_cons hs with ⟨rfl, rfl⟩ | ⟨_, hs⟩
  ·exact hst.slots _ _ hn
  ·exact hst.slots m s hs, hst.mem⟩
theorem baddW {t : TypeId} {m n : Int} : binOp .add t (.int .i64 m) (.int .i64 n) = pure (.int .i64 (IntKind.i64.wrap (m + n))) := rfl
theorem TrOps.joinO (h k : Nat) {F G : HP} (hM : look M h = some (poM F)) (hM' : look M k = some (poM G)) (hhk : h ≠ k)
  (hc : (∀ b, F b ≠ none → G b = none) → TrOps P N w0 O0 ops Q e ((h, poM (fun b => (F b).or (G b))) :: (k, .gone) :: M) rest) : TrOps P N w0 O0 ops Q e M rest := by
 classical
 intro O H a w hst
 have hF := hst.mem h _ hM
 have hG := hst.mem k _ hM'
 have hap : ∀ b, F b ≠ none → G b = none := fun b hb => Classical.byContradiction fun hg => by
  obtain ⟨x, hx⟩ := Option.ne_none_iff_exists'.1 hb
  obtain ⟨y, hy⟩ := Option.ne_none_iff_exists'.1 hg
  have h1 := (hF b x hx).2.1
  have h2 := (hG b y hy).2.1
  omega
 obtain ⟨O', hO'⟩ : ∃ O' : Nat → Nat, O' = fun b => if (G b).isSome then h + 1 else O b := ⟨_, rfl⟩
 have hin : ∀ b, (G b).isSome = true → w0.heap.size ≤ b ∧ O b = k + 1 := fun b hb => by
  obtain ⟨y, hy⟩ := Option.isSome_iff_exists.1 hb
  obtain ⟨g1, g2, _⟩ := hG b y hy
  exact ⟨g1, g2⟩
 have hk : Keeps O w O' w := fun b _ h0 => ⟨by rw [hO']; simp only []; rw [if_neg (fun hs => by have := (hin b hs).2; omega)]; exact h0, rfl⟩
 refine hc hap O' H a w ⟨hst.df, hst.sz, hst.bl, fun b hb => ?_, fun m t hs => ?_, fun m mo hmo => ?_⟩
 ·rw [hO']; simp only []; rw [if_neg (fun hs => by have := (hin b hs).1; omega)]; exact hst.lab b hb
 ·obtain ⟨x, hx, hxr⟩ := hst.slots m t hs
  exact ⟨x, hx, hxr.keeps hk⟩
 ·rcases look_cons hmo with ⟨rfl, rfl⟩ | ⟨hne, hmo⟩
  ·intro b x hx
   simp only [] at hx
   cases hf : F b with
   | some y =>
    rw [hf] at hx
    cases hx
    obtain ⟨g1, g2, g3⟩ := hF b x hf
    refine ⟨g1, ?_, g3⟩
    rw [hO']; simp only []; rw [if_neg (fun hs => by have := (hin b hs).2; omega)]; exact g2
   | none =>
    rw [hf] at hx
    have hg : G b = some x := by simpa using hx
    obtain ⟨g1, g2, g3⟩ := hG b x hg
    exact ⟨g1, by rw [hO']; simp [hg], g3⟩
  ·rcases look_cons hmo with ⟨rfl, rfl⟩ | ⟨hne2, hmo⟩
   ·trivial
   ·exact (hst.mem m mo hmo).move hk fun b _ hb => ⟨by rw [hO']; simp only []; rw [if_neg (fun hs => by have := (hin b hs).2; omega)], rfl⟩
theorem TrOps.dropO (h : Nat) {F F' : HP} (hM : look M h = some (poM F)) (hF : ∀ b x, F' b = some x → F b = some x) (hc : TrOps P N w0 O0 ops Q e ((h, poM F') :: M) rest) : TrOps P N w0 O0 ops Q e M rest := fun O H a w hst =>
 hc O H a w ⟨hst.df, hst.sz, hst.bl, hst.lab, hst.slots, fun m mo hm => by
  rcases look_cons hm with ⟨rfl, rfl⟩ | ⟨_, hm⟩
  ·exact fun b x hx => hst.mem _ _ hM b x (hF b x hx)
  ·exact hst.mem m mo hm⟩
end
theorem nd_app {A : List QEnt} {e : QEnt} (h : NdE A) (hn : ∀ x, x ∈ A → x.blk ≠ e.blk) : NdE (A ++ [e]) := by
 unfold NdE at *
 rw [List.map_append, List.nodup_append]
 refine ⟨h, by simp, fun a ha b hb => ?_⟩
 obtain ⟨x, hx, rfl⟩ := List.mem_map.1 ha
 simp at hb; subst hb; exact hn x hx
theorem ent_or {A : List QEnt} {e : QEnt} (h : NdE (A ++ [e])) : (fun b => (enF A b).or (oneO e.blk (.c e.ty (entC e)) b)) = enF (A ++ [e]) := by
 have hA : NdE A := by
  unfold NdE at *; rw [List.map_append, List.nodup_append] at h; exact h.1
 funext b
 cases he : enF A b with
 | some y =>
  obtain ⟨x, hx, rfl, rfl⟩ := ent_some he
  rw [ent_mem h (by simp [hx])]; rfl
 | none =>
  by_cases hb : b = e.blk
  ·subst hb; rw [ent_mem h (by simp), oneO_s]; rfl
  ·have : enF (A ++ [e]) b = none := ent_none fun x hx hxb => by
    rcases List.mem_append.1 hx with hx | hx
    ·rw [← hxb, ent_mem hA hx] at he; cases he
    ·simp at hx; subst hx; exact hb hxb.symm
   rw [this]; unfold oneO; rw [if_neg hb]; rfl
theorem ent_drop {A : List QEnt} {e : QEnt} (h : NdE (A ++ [e])) : ∀ b x, enF A b = some x → enF (A ++ [e]) b = some x := fun b y hy => by
 obtain ⟨x, hx, rfl, rfl⟩ := ent_some hy
 exact ent_mem h (by simp [hx])
end Go.Eng
end

section
namespace Go.Eng
structure QInv (p : Pl) (A : List QEnt) (m : List (Int × Value)) : Prop where
 k : (m.map (·.1)).Nodup
 q : QOk A
 p : PlOk p 1 A.length (arrV A)
 m : MapQ A m
abbrev qF (q Tq bm : Nat) (tm : Int) (p : Pl) (A : List QEnt) (m : List (Int × Value)) : Res := fo [oneO q (.c Tq [plV p A.length, .map (some bm), .int .i64 tm]), plMe 160 p (arrV A), enF A, oneO bm (.m m)]
def QUpd (A : List QEnt) (item : Nat) (key : Int) (A' : List QEnt) : Prop := (∀ it k, QHas A' it k ↔ (it = item ∧ k = key) ∨ (it ≠ item ∧ QHas A it k)) ∧ A'.length ≤ A.length + 1
def QDel (A : List QEnt) (x : QEnt) (A' : List QEnt) : Prop := (∀ it k, QHas A' it k ↔ it ≠ x.item ∧ QHas A it k) ∧ QHas A x.item x.key ∧ A'.length + 1 = A.length
def QEnt.ky (x : QEnt) (k : Int) : QEnt := ⟨x.blk, x.item, k, x.time, x.pos, x.ty⟩
def QEnt.tk (x : QEnt) (k t : Int) : QEnt := ⟨x.blk, x.item, k, t, x.pos, x.ty⟩
theorem mem_nthZ {α : Type} [Inhabited α] {A : List α} {x : α} (h : x ∈ A) : ∃ j : Int, 0 ≤ j ∧ j < A.length ∧ nth A j = x := by
 obtain ⟨i, hi, rfl⟩ := List.getElem_of_mem h
 exact ⟨i, by omega, by omega, nth_eq hi⟩
section
variable {A : List QEnt} {j key t : Int} (hN : NdE A) (j0 : 0 ≤ j) (j1 : j < A.length)
include hN j0 j1
theorem ent_at1 : enF (A.set j.toNat ((nth A j).ky key)) (nth A j).blk = some (.c (nth A j).ty (entC ((nth A j).ky key))) := by
 have h := ent_at (nd_set hN j0 j1 (y := (nth A j).ky key) rfl) j0 (by simpa using j1)
 rw [nth_setZ j0 j0 j1, if_pos rfl] at h
 exact h
theorem ent_set2 : updO (enF (A.set j.toNat ((nth A j).ky key))) (nth A j).blk (.c (nth A j).ty (entC ((nth A j).tk key t))) = enF (A.set j.toNat ((nth A j).tk key t)) := by
 have hb : (nth (A.set j.toNat ((nth A j).ky key)) j).blk = (nth A j).blk := by rw [nth_setZ j0 j0 j1, if_pos rfl]; rfl
 have h := ent_set (A := A.set j.toNat ((nth A j).ky key)) (nd_set hN j0 j1 (y := (nth A j).ky key) rfl) (i := j) (y := (nth A j).tk key t) j0 (by simpa using j1) hb.symm
 rw [hb, List.set_set] at h
 exact h
theorem ent_at2 : enF (A.set j.toNat ((nth A j).tk key t)) (nth A j).blk = some (.c (nth A j).ty (entC ((nth A j).tk key t))) := by
 have h := ent_at (nd_set hN j0 j1 (y := (nth A j).tk key t) rfl) j0 (by simpa using j1)
 rw [nth_setZ j0 j0 j1, if_pos rfl] at h
 exact h
omit hN in
theorem arrV_set : arrV (A.set j.toNat ((nth A j).tk key t)) = arrV A := by
 have hlt : j.toNat < A.length := by omega
 unfold arrV
 rw [List.map_set]
 have e : ptr ((nth A j).tk key t).blk 0 = (A.map fun x => ptr x.blk 0)[j.toNat]'(by simpa using hlt) := by
  rw [nth_I hlt]; simp [QEnt.tk]
 rw [e, List.set_getElem_self]
theorem QOk.tk (hp : PosE A) : QOk (A.set j.toNat ((nth A j).tk key t)) := by
 refine ⟨nd_set hN j0 j1 rfl, fun i hi => ?_⟩
 simp only [List.length_set] at hi
 rw [nth_setZ j0 (by omega) (by omega)]
 split
 ·rename_i e; rw [← e]; exact hp i hi
 ·exact hp i hi
theorem mem_set {y x : QEnt} : x ∈ A.set j.toNat y ↔ x = y ∨ (x ∈ A ∧ x ≠ nth A j) := by
 have hlt : j.toNat < A.length := by omega
 constructor
 ·intro hx
  obtain ⟨i, hi, rfl⟩ := List.getElem_of_mem hx
  simp only [List.length_set] at hi
  by_cases h : j.toNat = i
  ·subst h; exact .inl (List.getElem_set_self _)
  ·refine .inr ⟨?_, fun e => ?_⟩
   ·rw [List.getElem_set_ne h]; exact List.getElem_mem _
   ·rw [List.getElem_set_ne h, nth_I hlt] at e
    have := hN.uniq hi hlt (by rw [nth_eq hi, nth_eq hlt, e])
    exact h this.symm
 ·rintro (rfl | ⟨hx, hne⟩)
  ·exact List.mem_set hlt _
  ·obtain ⟨i, hi, rfl⟩ := List.getElem_of_mem hx
   have h : j.toNat ≠ i := fun e => hne (by subst e; rw [nth_I hlt])
   have : (A.set j.toNat y)[i]'(by simpa using hi) = A[i] := List.getElem_set_ne h _
   rw [← this]; exact List.getElem_mem _
end
theorem put_keys {n : Int} {v : Value} : ∀ {l : List (Int × Value)}, (l.map (·.1)).Nodup → ((putI l n v).map (·.1)).Nodup ∧ ∀ k, k ∈ (putI l n v).map (·.1) → k = n ∨ k ∈ l.map (·.1)
 | [], _ => by simp [putI]
 | p :: l, hd => by
  rw [List.map_cons, List.nodup_cons] at hd
  simp only [putI]
  by_cases hp : p.1 = n
  ·rw [if_pos hp]
   refine ⟨?_, fun k hk => ?_⟩
   ·rw [List.map_cons, List.nodup_cons]; exact ⟨by rw [← hp]; exact hd.1, hd.2⟩
   ·simp at hk ⊢
    rcases hk with h | h
    ·exact .inl h
    ·exact .inr (.inr h)
  ·rw [if_neg hp]
   obtain ⟨h1, h2⟩ := put_keys (n := n) (v := v) hd.2
   refine ⟨?_, fun k hk => ?_⟩
   ·rw [List.map_cons, List.nodup_cons]
    refine ⟨fun h => ?_, h1⟩
    rcases h2 _ h with h | h
    ·exact hp h
    ·exact hd.1 h
   ·rw [List.map_cons, List.mem_cons] at hk ⊢
    rcases hk with h | h
    ·exact .inr (.inl h)
    ·rcases h2 _ h with h | h
     ·exact .inl h
     ·exact .inr (.inr h)
theorem set_inv {p : Pl} {A A' : List QEnt} {m : List (Int × Value)} {j key t : Int} (h : QInv p A m) (j0 : 0 ≤ j) (j1 : j < A.length) (hS : SameE (A.set j.toNat ((nth A j).tk key t)) A') (hQ : QOk A') : QInv p A' m ∧ QUpd A (nth A j).item key A' := by
 have hN := h.q.nd
 have hl : A'.length = A.length := by rw [← hS.len]; simp
 have hmj := nth_mem (l := A) j0 j1
 have hm : MapQ (A.set j.toNat ((nth A j).tk key t)) m := by
  refine ⟨fun x hx => ?_, fun k v hv => ?_⟩
  ·rcases (mem_set hN j0 j1).1 hx with rfl | ⟨hx, _⟩
   ·exact (show lookI m ((nth A j).item : Int) = some (ptr (nth A j).blk 0) from h.m.i _ hmj)
   ·exact h.m.i _ hx
  ·obtain ⟨x, hx, h1, h2⟩ := h.m.o k v hv
   by_cases he : x = nth A j
   ·subst he; exact ⟨_, (mem_set hN j0 j1).2 (.inl rfl), h1, h2⟩
   ·exact ⟨x, (mem_set hN j0 j1).2 (.inr ⟨hx, he⟩), h1, h2⟩
 refine ⟨⟨h.k, hQ, by rw [hl]; exact h.p.same (by rw [arrV_len, arrV_len, hl]), hS.map hm⟩, fun it k => ?_, by omega⟩
 rw [← hS.has]
 constructor
 ·rintro ⟨x, hx, rfl, rfl⟩
  rcases (mem_set hN j0 j1).1 hx with rfl | ⟨hx, hne⟩
  ·exact .inl ⟨rfl, rfl⟩
  ·exact .inr ⟨fun e => hne (h.m.one hN hx hmj e), x, hx, rfl, rfl⟩
 ·rintro (⟨rfl, rfl⟩ | ⟨hne, x, hx, rfl, rfl⟩)
  ·exact ⟨_, (mem_set hN j0 j1).2 (.inl rfl), rfl, rfl⟩
  ·exact ⟨x, (mem_set hN j0 j1).2 (.inr ⟨hx, fun e => hne (by rw [e])⟩), rfl, rfl⟩
theorem new_inv {p p' : Pl} {A A' : List QEnt} {m : List (Int × Value)} {e : QEnt} (h : QInv p A m) (hno : lookI m e.item = none) (hp : PlOk p' 1 (A.length + 1) (arrV A')) (hS : SameE (A ++ [e]) A') (hQ : QOk A') :
  QInv p' A' (putI m e.item (ptr e.blk 0)) ∧ QUpd A e.item e.key A' := by
 have hl : A'.length = A.length + 1 := by rw [← hS.len]; simp
 have hne : ∀ x, x ∈ A → x.item ≠ e.item := fun x hx he => by
  have := h.m.i x hx
  rw [he, hno] at this; cases this
 have hm : MapQ (A ++ [e]) (putI m e.item (ptr e.blk 0)) := by
  refine ⟨fun x hx => ?_, fun k v hv => ?_⟩
  ·rw [lookI_put]
   rcases List.mem_append.1 hx with hx | hx
   ·rw [if_neg (fun q => hne x hx (by omega))]; exact h.m.i x hx
   ·simp at hx; subst hx; rw [if_pos rfl]
  ·rw [lookI_put] at hv
   split at hv
   ·rename_i hk; cases hv; exact ⟨e, by simp, hk.symm, rfl⟩
   ·obtain ⟨x, hx, h1, h2⟩ := h.m.o k v hv; exact ⟨x, by simp [hx], h1, h2⟩
 refine ⟨⟨(put_keys h.k).1, hQ, by rw [hl]; exact hp, hS.map hm⟩, fun it k => ?_, by omega⟩
 rw [← hS.has]
 constructor
 ·rintro ⟨x, hx, rfl, rfl⟩
  rcases List.mem_append.1 hx with hx | hx
  ·exact .inr ⟨hne x hx, x, hx, rfl, rfl⟩
  ·simp at hx; subst hx; exact .inl ⟨rfl, rfl⟩
 ·rintro (⟨rfl, rfl⟩ | ⟨_, x, hx, rfl, rfl⟩)
  ·exact ⟨e, by simp, rfl, rfl⟩
  ·exact ⟨x, by simp [hx], rfl, rfl⟩
theorem lookI_del {n : Int} : ∀ {l : List (Int × Value)} {m : Int}, (l.map (·.1)).Nodup → lookI (delI l n) m = if m = n then none else lookI l m
 | [], m, _ => by simp [delI, lookI]
 | p :: l, m, hd => by
  rw [List.map_cons, List.nodup_cons] at hd
  simp only [delI]
  by_cases hp : p.1 = n
  ·rw [if_pos hp, lookI_cons]
   by_cases h : m = n
   ·rw [if_pos h]
    subst h
    unfold lookI
    rw [List.find?_eq_none.2 fun x hx => by
     simp only [decide_eq_true_eq]
     intro e
     exact hd.1 (List.mem_map.2 ⟨x, hx, e.trans hp.symm⟩)]
    rfl
   ·rw [if_neg h, if_neg (fun e => h (by omega))]
  ·rw [if_neg hp, lookI_cons, lookI_cons, lookI_del hd.2]
   by_cases h : p.1 = m
   ·rw [if_pos h, if_pos h, if_neg (fun e => hp (by omega))]
   ·rw [if_neg h, if_neg h]
theorem del_keys {n : Int} : ∀ {l : List (Int × Value)}, (l.map (·.1)).Nodup → ((delI l n).map (·.1)).Nodup ∧ ∀ k, k ∈ (delI l n).map (·.1) → k ∈ l.map (·.1)
 | [], _ => by simp [delI]
 | p :: l, hd => by
  rw [List.map_cons, List.nodup_cons] at hd
  simp only [delI]
  by_cases hp : p.1 = n
  ·rw [if_pos hp]; exact ⟨hd.2, fun k hk => by simp at hk ⊢; exact .inr hk⟩
  ·rw [if_neg hp]
   obtain ⟨h1, h2⟩ := del_keys (n := n) hd.2
   refine ⟨?_, fun k hk => ?_⟩
   ·rw [List.map_cons, List.nodup_cons]; exact ⟨fun h => hd.1 (h2 _ h), h1⟩
   ·rw [List.map_cons, List.mem_cons] at hk ⊢
    exact hk.imp id (h2 k)
theorem take_inv {p : Pl} {A A' : List QEnt} {m : List (Int × Value)} {x : QEnt} (h : QInv p A m) (hS : SameE A (A' ++ [x])) (hQ : QOk (A' ++ [x])) : QOk A' ∧ MapQ A' (delI m x.item) ∧ QDel A x A' := by
 have hk := h.k
 have hN := hQ.nd
 have hN' : NdE A' := by unfold NdE at *; rw [List.map_append, List.nodup_append] at hN; exact hN.1
 have hm := hS.map h.m
 have hl : A'.length + 1 = A.length := by have := hS.len; simp at this; omega
 have hne : ∀ y, y ∈ A' → y.item ≠ x.item := fun y hy he => by
  have := hm.one hN (by simp [hy]) (by simp) he
  subst this
  unfold NdE at hN
  rw [List.map_append, List.nodup_append] at hN
  exact hN.2.2 _ (List.mem_map.2 ⟨y, hy, rfl⟩) _ (by simp) rfl
 refine ⟨⟨hN', fun i hi => ?_⟩, ⟨fun y hy => ?_, fun k v hv => ?_⟩, fun it k => ?_, ?_, hl⟩
 ·have := hQ.pos i (by simp; omega)
  have e : nth (A' ++ [x]) (i : Int) = nth A' (i : Int) := by
   rw [nth_eq (by simp; omega), nth_eq hi]; exact List.getElem_append_left hi
  rw [e] at this; exact this
 ·rw [lookI_del hk, if_neg (fun e => hne y hy (by omega))]; exact hm.i y (by simp [hy])
 ·rw [lookI_del hk] at hv
  split at hv
  ·cases hv
  ·rename_i hkn
   obtain ⟨y, hy, h1, h2⟩ := hm.o k v hv
   rcases List.mem_append.1 hy with hy | hy
   ·exact ⟨y, hy, h1, h2⟩
   ·simp at hy; subst hy; exact absurd h1.symm hkn
 ·rw [hS.has]
  constructor
  ·rintro ⟨y, hy, rfl, rfl⟩; exact ⟨hne y hy, y, by simp [hy], rfl, rfl⟩
  ·rintro ⟨h1, y, hy, rfl, rfl⟩
   rcases List.mem_append.1 hy with hy | hy
   ·exact ⟨y, hy, rfl, rfl⟩
   ·simp at hy; subst hy; exact absurd rfl h1
 ·rw [hS.has]; exact ⟨x, by simp, rfl, rfl⟩
theorem take_pl {ba cap : Nat} {tl : List Value} {v : Value} {A A3 : List QEnt} (h : PlOk (some (ba, cap, tl)) 1 A.length (arrV A)) (hl : A3.length + 1 = A.length) : PlOk (some (ba, cap, v :: tl)) 1 A3.length (arrV A3) := by
 obtain ⟨h1, h2, h3⟩ := h.s ba cap tl rfl
 refine ⟨fun e => (by cases e), by rw [arrV_len]; omega, fun b c t e => ?_⟩
 cases e
 simp only [List.length_append, arrV_len, List.length_cons] at h1 ⊢
 omega
end Go.Eng
end

section
namespace Go.Eng
theorem wrap_u32 {n : Int} (h0 : 0 ≤ n) (h1 : n ≤ 4294967295) : IntKind.u32.wrap n = n := IntWalk.u32_in n ⟨h0, h1⟩
theorem bor32 {t : TypeId} {a b : Nat} (ha : a < 2 ^ 32) (hb : b < 2 ^ 32) : binOp .or t (.int .u32 (a : Int)) (.int .u32 (b : Int)) = pure (.int .u32 ((a ||| b : Nat) : Int)) := by
 have h : a ||| b < 2 ^ 32 := Nat.or_lt_two_pow ha hb
 rw [binOp_or, intBits_or]
 congr 2
 unfold bits
 have hb : (BitVec.ofInt 32 (a : Int) ||| BitVec.ofInt 32 (b : Int)).toNat = a ||| b := by
  have e1 : BitVec.ofInt 32 (a : Int) = BitVec.ofNat 32 a := by simp
  have e2 : BitVec.ofInt 32 (b : Int) = BitVec.ofNat 32 b := by simp
  rw [e1, e2, BitVec.toNat_or, BitVec.toNat_ofNat, BitVec.toNat_ofNat, Nat.mod_eq_of_lt (by omega), Nat.mod_eq_of_lt (by omega)]
 have hb' : ((BitVec.ofInt IntKind.u32.bits (a : Int) ||| BitVec.ofInt IntKind.u32.bits (b : Int)).toNat : Int) = ((a ||| b : Nat) : Int) := congrArg Int.ofNat hb
 generalize a ||| b = z at h hb'
 exact (congrArg IntKind.u32.wrap hb').trans (wrap_u32 (by omega) (by omega))
theorem andNot_lt {a b : Nat} (ha : a < 2 ^ 32) : a &&& (2 ^ 32 - 1 - b) < 2 ^ 32 := Nat.lt_of_le_of_lt Nat.and_le_left ha
theorem bandn32 {t : TypeId} {a b : Nat} (ha : a < 2 ^ 32) (hb : b < 2 ^ 32) : binOp .andNot t (.int .u32 (a : Int)) (.int .u32 (b : Int)) = pure (.int .u32 ((a &&& (2 ^ 32 - 1 - b) : Nat) : Int)) := by
 have h : a &&& (2 ^ 32 - 1 - b) < 2 ^ 32 := andNot_lt ha
 rw [binOp_andNot, intBits_andNot]
 congr 2
 unfold bits
 have hb : (BitVec.ofInt 32 (a : Int) &&& ~~~ BitVec.ofInt 32 (b : Int)).toNat = a &&& (2 ^ 32 - 1 - b) := by
  have e1 : BitVec.ofInt 32 (a : Int) = BitVec.ofNat 32 a := by simp
  have e2 : BitVec.ofInt 32 (b : Int) = BitVec.ofNat 32 b := by simp
  rw [e1, e2, BitVec.toNat_and, BitVec.toNat_not, BitVec.toNat_ofNat, BitVec.toNat_ofNat, Nat.mod_eq_of_lt (by omega), Nat.mod_eq_of_lt (by omega)]
 have hb' : ((BitVec.ofInt IntKind.u32.bits (a : Int) &&& ~~~ BitVec.ofInt IntKind.u32.bits (b : Int)).toNat : Int) = ((a &&& (2 ^ 32 - 1 - b) : Nat) : Int) := congrArg Int.ofNat hb
 generalize a &&& (2 ^ 32 - 1 - b) = z at h hb'
 exact (congrArg IntKind.u32.wrap hb').trans (wrap_u32 (by omega) (by omega))
abbrev noCh : Int × Nat := (1000000000, 0)
def chLess (a b : Int × Nat) : Prop := a.1 < b.1 ∨ (a.1 = b.1 ∧ a.2 < b.2)
instance {a b : Int × Nat} : Decidable (chLess a b) := by unfold chLess; exact inferInstance
def htN (sets : List (List Int)) (e : Nat) : Nat → Nat
 | 0 => 0
 | i + 1 => if (e : Int) ∈ nth sets i then htN sets e i ||| 2 ^ i else htN sets e i
def htF (sets : List (List Int)) (e : Nat) : Nat := htN sets e sets.length
def chY (x : Int × Nat) (c : Int) (e : Nat) : Int × Nat := (x.1 + c, x.2 ||| 2 ^ e)
def hbN (tab : List (Int × Nat)) (c : Int) (e h : Nat) : Nat → List (Int × Nat)
 | 0 => tab
 | j + 1 => if nth tab j ≠ noCh ∧ chLess (chY (nth tab j) c e) (nth (hbN tab c e h j) (j ||| h : Nat)) then (hbN tab c e h j).set (j ||| h) (chY (nth tab j) c e) else hbN tab c e h j
def hb0 (n : Nat) : List (Int × Nat) := (List.replicate (2 ^ n) noCh).set 0 (0, 0)
def hbO (sets : List (List Int)) (cs : List Int) : Nat → List (Int × Nat)
 | 0 => hb0 sets.length
 | k + 1 => hbN (hbO sets cs k) (nth cs k) k (htF sets k) (2 ^ sets.length)
def hbF (sets : List (List Int)) (cs : List Int) : Int × Nat := nth (hbO sets cs cs.length) ((2 ^ sets.length : Nat) - 1 : Int)
section
variable {sets : List (List Int)} {cs : List Int} {tab : List (Int × Nat)} {c : Int} {e h n : Nat}
end
end Go.Eng
end

section
namespace Go.Eng
abbrev Cuts := List (List Int × Int)
def hiUT (m : Cuts) (k : Nat) : List Int := (m.take k).flatMap (·.1)
def hiU (m : Cuts) : List Int := dd (sortI (hiUT m m.length))
def hiL (m : Cuts) : Prop := 16 < m.length ∨ 16 < (hiU m).length
instance {m : Cuts} : Decidable (hiL m) := by unfold hiL; exact inferInstance
section
variable {t : Tsk} {s : List Int} {m : Cuts} {U : List Int}
end
end Go.Eng
end

section
namespace Go.Eng
section
variable {P : Program} {B : Nat} {o : Oper} {e : Env} {M : Mem} {s : S}
end
end Go.Eng
end

section
namespace Go.Eng
section
variable {sets : List (List Int)} {cs : List Int} {tab : List (Int × Nat)} {c : Int} {e h n k j : Nat}
end
section
variable {t : Tsk} {s : List Int} {m : Cuts} {U : List Int}
end
end Go.Eng
end

section
namespace Go.Eng
def lvB (lev : Int) (x : List Int) (p : Int) : Prop := nth x p < 0 ∨ lev ≤ nth x p
instance {lev : Int} {x : List Int} {p : Int} : Decidable (lvB lev x p) := by unfold lvB; exact inferInstance
def lvA (lev : Int) (add x : List Int) : Nat → List Int
 | 0 => x
 | j + 1 => if nth (lvA lev add x j) (nth add j) < 0 then (lvA lev add x j).set (nth add j).toNat lev else lvA lev add x j
def lvO (t : Tsk) (lev : Int) (x : List Int) (i : Nat) : List Int := if (nth t.ops i).pre.any (fun p => decide (lvB lev x p)) = true then x else lvA lev (nth t.ops i).add x (nth t.ops i).add.length
def lvP (t : Tsk) (lev : Int) (x : List Int) : Nat → List Int
 | 0 => x
 | i + 1 => lvO t lev (lvP t lev x i) i
def lvI (n : Nat) (s : List Int) : Nat → List Int
 | 0 => List.replicate n (-1)
 | k + 1 => (lvI n s k).set (nth s k).toNat 0
def lvL (t : Tsk) (s : List Int) : Nat → List Int
 | 0 => lvI t.facts.toNat s s.length
 | k + 1 => lvP t (k + 1 : Nat) (lvL t s k) t.ops.length
def lvlF (t : Tsk) (s : List Int) : List Int := lvL t s t.facts.toNat
section
variable {t : Tsk} {s : List Int} {lev n : Int} {x y z : List Int}
end
end Go.Eng
end

section
namespace Go.Eng
def smT (lv pre : List Int) : Nat → Int
 | 0 => 0
 | k + 1 => smT lv pre k + nth lv (nth pre k)
def tpT (n : Int) (lv pre : List Int) : Nat → Int
 | 0 => -1
 | k + 1 => if nth lv (nth pre k) < 0 then n else max (tpT n lv pre k) (nth lv (nth pre k))
def spB (lv : List Int) (sum top : Int) (y : List Int × List Int) (p : Int) : Prop := (top < nth lv p ∧ 0 < nth lv p) ∧ (nth y.1 p < 0 ∨ sum < nth y.2 p)
instance {lv : List Int} {sum top : Int} {y : List Int × List Int} {p : Int} : Decidable (spB lv sum top y p) := by unfold spB; exact inferInstance
def spA (lv add : List Int) (i : Nat) (sum top : Int) (x : List Int × List Int) : Nat → List Int × List Int
 | 0 => x
 | j + 1 => if spB lv sum top (spA lv add i sum top x j) (nth add j) then ((spA lv add i sum top x j).1.set (nth add j).toNat i, (spA lv add i sum top x j).2.set (nth add j).toNat sum) else spA lv add i sum top x j
def spO (t : Tsk) (lv : List Int) (x : List Int × List Int) (i : Nat) : List Int × List Int := spA lv (nth t.ops i).add i (smT lv (nth t.ops i).pre (nth t.ops i).pre.length) (tpT t.facts lv (nth t.ops i).pre (nth t.ops i).pre.length) x (nth t.ops i).add.length
def spP (t : Tsk) (lv : List Int) : Nat → List Int × List Int
 | 0 => (List.replicate t.facts.toNat (-1), List.replicate t.facts.toNat 0)
 | i + 1 => spO t lv (spP t lv i) i
def spF (t : Tsk) (s : List Int) : List Int := (spP t (lvlF t s) t.ops.length).1
section
variable {t : Tsk} {s lv : List Int}
end
abbrev AcSt := List Bool × List Int
def acK (g : Int → AcSt → AcSt) (pre : List Int) (x : AcSt) : Nat → AcSt
 | 0 => x
 | k + 1 => g (nth pre k) (acK g pre x k)
def acF (t : Tsk) (sup : List Int) : Nat → Int → AcSt → AcSt
 | 0, _, x => x
 | f + 1, p, x => if nth sup p < 0 ∨ nth x.1 (nth sup p) = true then x else
   ((acK (acF t sup f) (nth t.ops (nth sup p)).pre (x.1.set (nth sup p).toNat true, x.2) (nth t.ops (nth sup p)).pre.length).1,
    (acK (acF t sup f) (nth t.ops (nth sup p)).pre (x.1.set (nth sup p).toNat true, x.2) (nth t.ops (nth sup p)).pre.length).2 ++ [nth sup p])
section
variable {t : Tsk} {s : List Int} {x y z : AcSt}
def acG (t : Tsk) (s : List Int) (k : Nat) : AcSt := acK (acF t (spF t s) (t.ops.length + 1)) t.goal (List.replicate t.ops.length false, []) k
def plL (t : Tsk) (s : List Int) : List Int := (acG t s t.goal.length).2
def plB (t : Tsk) (s : List Int) : Prop := ∀ p, p ∈ t.goal → 0 ≤ nth (lvlF t s) p
end
end Go.Eng
end

section
namespace Go.Eng
def wdT (s : List Int) : Nat → Nat
 | 0 => 0
 | k + 1 => wdT s k ||| 2 ^ (nth s k).toNat
def wdF (s : List Int) : Nat := wdT s s.length
theorem wdT_bit {s : List Int} {p : Nat} : ∀ {k : Nat}, (wdT s k).testBit p = decide (∃ i, i < k ∧ (nth s i).toNat = p)
 | 0 => by simp [wdT]
 | k + 1 => by
  simp only [wdT]
  rw [Nat.testBit_or, wdT_bit (k := k), Nat.testBit_two_pow, Bool.eq_iff_iff]
  simp only [Bool.or_eq_true, decide_eq_true_eq]
  constructor
  ·rintro (⟨i, h1, h2⟩ | h)
   ·exact ⟨i, by omega, h2⟩
   ·exact ⟨k, by omega, h⟩
  ·rintro ⟨i, h1, h2⟩
   by_cases h : i = k
   ·subst h; exact .inr h2
   ·exact .inl ⟨i, by omega, h2⟩
theorem wdF_bit {n : Int} {s : List Int} (hs : ∀ p, p ∈ s → 0 ≤ p ∧ p < n) {p : Nat} : (wdF s).testBit p = decide ((p : Int) ∈ s) := by
 unfold wdF
 rw [wdT_bit, Bool.eq_iff_iff]
 simp only [decide_eq_true_eq]
 constructor
 ·rintro ⟨i, hi, h⟩
  have hm : nth s i ∈ s := nth_mem (by omega) (by omega)
  have := hs _ hm
  rw [← h, Int.toNat_of_nonneg this.1]; exact hm
 ·intro h
  obtain ⟨i, hi, he⟩ := List.getElem_of_mem h
  exact ⟨i, hi, by rw [nth_eq hi, he]; simp⟩
theorem wdT_lt {n : Nat} {s : List Int} (hs : ∀ p, p ∈ s → 0 ≤ p ∧ p < n) : ∀ {k : Nat}, k ≤ s.length → wdT s k < 2 ^ n
 | 0, _ => Nat.pow_pos (by omega)
 | k + 1, hk => by
  have ih := wdT_lt hs (k := k) (by omega)
  have := hs _ (nth_mem (l := s) (n := (k : Int)) (by omega) (by omega))
  exact Nat.or_lt_two_pow ih (Nat.pow_lt_pow_right (by omega) (by omega))
def c8 (x : Nat) : Nat := (List.range 8).countP fun i => x.testBit i
def ocW (w : Nat) : Nat := c8 (w / 2 ^ 24) + c8 (w / 2 ^ 16 % 256) + c8 (w / 2 ^ 8 % 256) + c8 (w % 256)
section
variable {t : Tsk} {s : List Int} {x : List Nat} {w i j : Nat}
theorem wd_lt (hV : TskV t) {f : List Int} (hf : ∀ p, p ∈ f → 0 ≤ p ∧ p < t.facts) : wdF f < 2 ^ 24 := by
 have h := hV.facts
 exact wdT_lt (n := 24) (fun p hp => by have := hf p hp; omega) (Nat.le_refl _)
end
section
variable {t : Tsk} {s : List Int} {S L : List Nat} {m m0 : List (Nat × Int)} {w : Nat}
end
end Go.Eng
end

section
namespace Go.Eng
open Go.Shelf Go.Lib Go.Proofs
open Go.Sort (SWO ahead grow putCells putRow mapBlock onCells Holds PermIn SortedIn)
def cmpZ (x y : Int) : Int := if x < y then -1 else if y < x then 1 else 0
abbrev u32C (x : Nat) : List D := [D.v (.int .u32 (x : Int))]
def oc24 (x : Nat) : Nat := ocW (x % 2 ^ 24)
def cfU (x y : Nat) : Int := cmpZ (oc24 x) (oc24 y)
noncomputable def sortU (l : List Nat) : List Nat := (Go.Sort.pdq (ltOf cfU) l.toArray 0 l.toArray.size (Lib.bitLen l.toArray.size) true true).toList
section
variable {P : Program} {B : Nat} {o : Oper} {e : Env} {M : Mem}
end
theorem bshl32 {t : TypeId} {n : Int} (h0 : 0 ≤ n) (h1 : n ≤ 23) : binOp .shl t (.int .u32 1) (.int .i64 n) = pure (.int .u32 ((2 ^ n.toNat : Nat) : Int)) := by
 rw [show binOp .shl t (.int .u32 1) (.int .i64 n) = Op.shift .shl .u32 1 .i64 n from rfl, shift_shl_any _ _ _ _ h0]
 have e : min n.toNat IntKind.u32.bits = n.toNat := by simp [IntKind.bits]; omega
 rw [e]
 have hp : 2 ^ n.toNat ≤ 2 ^ 23 := Nat.pow_le_pow_right (by omega) (by omega)
 have hc : (1 : Int) * 2 ^ n.toNat = ((2 ^ n.toNat : Nat) : Int) := by simp
 rw [hc]
 clear hc e
 generalize 2 ^ n.toNat = z at hp ⊢
 rw [wrap_u32 (by omega) (by omega)]
end Go.Eng
end
