/- Part 7. -/
import Derived.Test.YthjmgcopfipabaaGreatE6
set_option linter.unusedSimpArgs false
set_option linter.unnecessarySimpa false
set_option linter.unusedVariables false
set_option linter.unusedSectionVars false
section
namespace Go.Proofs.YthjmgcopfipabaaGreat
open Go.Eng
set_option maxRecDepth 10000
set_option maxHeartbeats 1000000
theorem linear_tableau_leaving_P (g : Ids) (t : Tb) (hk : TabOk g t) (hb : Bnd t) (c : Int) (h2 : t.bs.length ≤ t.rs.length) (k0 : 0 ≤ c) (k1 : c < g.w) : DoesP Tryz.prog 113 [ptr g.s 0, .int .i64 c] (.int .i64 (lvF t c g.w)) (tabF g t) (tabF g t) := by
 have hrm := hk.rm
 have hwm := hk.wm
 have hbm := hk.bm
 refine DoesP.of_body Tryz.func113 rfl rfl (by simp) Tryz.call113 (fun b => tab_dom b) (fun O0 Oc W => ?_); refine .g <| .r <| .a ?_; refine .z <| .a ?_; refine .sq <| .g <| .g <| .r <| .m ?_; refine .x (OpSem.nilv rfl rfl) ?_; refine .x (OpSem.fieldv rfl rfl fo122_1) ?_; refine .x (OpSem.tb1 (h := 0) rfl rfl rfl vs22) ?_; refine .x (OpSem.lenv rfl rfl es22) ?_; refine .m ?_; refine .sq <| .k <| .loop (X := Nat) (fun k => k ≤ t.bs.length) (fun k => [(0, .d (.v (ptr g.s 0))), (1, I (c)), (5, I ((lvTo t c g.w k))), (15, I (t.bs.length)), (16, I (k))]) (fun k => [(0, tabM g t), (1000, .fr (frK Oc W))]) (fun k => t.bs.length - k) 0 (by omega) ?_ ?_
 ·exact .p2 <| .slot rfl (Le.of_eq rfl) <| .sl <| .slot rfl (Le.of_eq (by simp)) <| .all
 ·rintro k hkl
  refine .g <| .r <| .x (.b blss) ?_; refine .sq <| .g <| .cond rfl (fun c17 => ?_) (fun c17 => ?_)
  ·have hkl2 : k < t.bs.length := by simp at c17; omega
   have hbi := lv_in (t := t) (c := c) (w := g.w) (k := k)
   refine .p <| .g <| .g <| .k <| .g <| .r <| .m ?_; refine .a ?_; refine .z <| .m ?_; refine .x (OpSem.nilv rfl rfl) ?_; refine .x (OpSem.fieldv rfl rfl fo122_0) ?_; refine .x (OpSem.tb0 (h := 0) rfl rfl rfl vs58) ?_; refine .m ?_; refine .x (.ixv es58) ?_; refine .x (OpSem.tbR (h := 0) hk rfl rfl rfl vs22 (by omega) (by omega)) ?_; refine .a ?_; refine .sq <| .g <| .g <| .r <| .mm ?_; refine .x (.ixv es22) ?_; refine .x (OpSem.tbC (h := 0) hk rfl rfl rfl vs3 (by omega) (by omega) (by omega) (by omega)) ?_; refine .x (.b bleq) ?_; refine .sq <| .cond rfl (fun c30 => ?_) (fun c30 => ?_)
   ·have hp : cel t k c ≤ 0 := by simpa using c30
    refine .u <| .u <| .b <| .y <| .x .ad ?_; refine .m ?_; refine .n <| .again (k + 1) (by omega) ?_ (by omega); exact .p2 <| .slot rfl (Le.i (by rw [lv_1 hp])) <| .sl <| .slot rfl (Le.of_eq (by simp)) <| .all
   ·have hp : ¬ cel t k c ≤ 0 := by simpa using c30
    refine .p <| .z <| .m ?_; refine .x (OpSem.lenv rfl rfl es22) ?_; refine .x .su ?_; refine .a ?_; refine .sq <| .g <| .g <| .r <| .m ?_; refine .x (.b blss) ?_; refine .sq <| .cond rfl (fun c35 => ?_) (fun c35 => ?_)
    ·have hp2 : (lvTo t c g.w k) < 0 := by simpa using c35
     refine .g <| .r <| .m ?_; refine .a ?_; refine .sq <| .u <| .u <| .b <| .y <| .x .ad ?_; refine .m ?_; refine .n <| .again (k + 1) (by omega) ?_ (by omega); exact .p2 <| .slot rfl (Le.i (by rw [lv_2 hp hp2])) <| .sl <| .slot rfl (Le.of_eq (by simp)) <| .all
    ·have hp2 : ¬ (lvTo t c g.w k) < 0 := by simpa using c35
     have ma := mul_inB (hb.cel (i := (k : Int)) (j := (g.w : Int) - 1)) (hb.cel (i := (lvTo t c g.w k)) (j := c))
     have mb := mul_inB (hb.cel (i := (lvTo t c g.w k)) (j := (g.w : Int) - 1)) (hb.cel (i := (k : Int)) (j := c))
     refine .p <| .g <| .g <| PC.start [] ?_; refine .mm ?_; refine .x (.ixv es22) ?_; refine .x (OpSem.tbC (h := 0) hk rfl rfl rfl vs3 (by omega) (by omega) (by omega) (by omega)) ?_; refine .m ?_; refine .x (OpSem.nilv rfl rfl) ?_; refine .x (OpSem.fieldv rfl rfl fo122_0) ?_; refine .x (OpSem.tb0 (h := 0) rfl rfl rfl vs58) ?_; refine .m ?_; refine .x (.ixv es58) ?_; refine .x (OpSem.tbR (h := 0) hk rfl rfl rfl vs22 (by omega) (by omega)) ?_; refine .m ?_; refine .x (.ixv es22) ?_; refine .x (OpSem.tbC (h := 0) hk rfl rfl rfl vs3 (by omega) (by omega) (by omega) (by omega)) ?_; refine .x (OpSem.bin rfl rfl rfl (bmul (by omega) (by omega))) ?_; refine .m ?_; refine .x (OpSem.nilv rfl rfl) ?_; refine .x (OpSem.fieldv rfl rfl fo122_0) ?_; refine .x (OpSem.tb0 (h := 0) rfl rfl rfl vs58) ?_; refine .m ?_; refine .x (.ixv es58) ?_; refine .x (OpSem.tbR (h := 0) hk rfl rfl rfl vs22 (by omega) (by omega)) ?_; refine .m ?_; refine .x (.ixv es22) ?_; refine .x (OpSem.tbC (h := 0) hk rfl rfl rfl vs3 (by omega) (by omega) (by omega) (by omega)) ?_; refine .mm ?_; refine .x (.ixv es22) ?_; refine .x (OpSem.tbC (h := 0) hk rfl rfl rfl vs3 (by omega) (by omega) (by omega) (by omega)) ?_; refine .x (OpSem.bin rfl rfl rfl (bmul (by omega) (by omega))) ?_; refine .x (OpSem.move (.inr rfl) rfl) ?_; refine .d0 mixed ?_; refine .a ?_; refine .sq <| .g <| PC.start [] ?_; refine .mm ?_; refine .x (.b blss) ?_; refine .m ?_; refine .split (n := 70) rfl (fun c70 => ?_) (fun c70 => ?_)
     ·have hc : lvC t c g.w (lvTo t c g.w k) k := .inl (by simpa using c70)
      refine .hf c70 ?_; refine .hf c70 ?_; refine .hf c70 ?_; refine .hf c70 ?_; refine .gU rfl rfl rfl rfl rfl ?_; refine .gU rfl rfl rfl rfl rfl ?_; refine .gU rfl rfl rfl rfl rfl ?_; refine .gU rfl rfl rfl rfl rfl ?_; refine .gU rfl rfl rfl rfl rfl ?_; refine .gU rfl rfl rfl rfl rfl ?_; refine .gU rfl rfl rfl rfl rfl ?_; refine .gU rfl rfl rfl rfl rfl ?_; refine .gU rfl rfl rfl rfl rfl ?_; refine .gU rfl rfl rfl rfl rfl ?_; refine .gU rfl rfl rfl rfl rfl ?_; refine .gU rfl rfl rfl rfl rfl ?_; refine .gU rfl rfl rfl rfl rfl ?_; refine .gU rfl rfl rfl rfl rfl ?_; refine .d0 mixed ?_; refine .gu ?_; refine .hf c70 ?_; refine .x (OpSem.pickT rfl rfl c70 rfl) ?_; refine .sq <| .condT rfl rfl ?_; refine .r <| .m ?_; refine .a ?_; refine .n <| .n <| .y <| .x .ad ?_; refine .m ?_; refine .n <| .again (k + 1) (by omega) ?_ (by omega); exact .p2 <| .slot rfl (Le.i (by rw [lv_3 hp hp2 hc])) <| .sl <| .slot rfl (Le.of_eq (by simp)) <| .all
     ·refine .ht (OpSem.move (.inl rfl) rfl) c70 ?_; refine .ht (OpSem.move (.inl rfl) rfl) c70 ?_; refine .ht (.b beql) c70 ?_; refine .ht (OpSem.move (.inl rfl) rfl) c70 ?_; refine .split (n := 74) rfl (fun c74 => ?_) (fun c74 => ?_)
      ·refine .gt (OpSem.move (.inl rfl) rfl) c74 ?_; refine .gt (OpSem.nilv rfl rfl) c74 ?_; refine .gt (OpSem.fieldv rfl rfl fo122_1) c74 ?_; refine .gt (OpSem.tb1 (h := 0) rfl rfl rfl vs22) c74 ?_; refine .gt (OpSem.move (.inl rfl) rfl) c74 ?_; refine .gt (OpSem.idxv rfl rfl rfl es22 (hk.at (j := k) (by omega) (by omega)) (by omega) (by omega)) c74 ?_; refine .gt (OpSem.tbB (h := 0) hk rfl rfl rfl vs3 (by omega) (by omega)) c74 ?_; refine .gt (OpSem.move (.inl rfl) rfl) c74 ?_; refine .gt (OpSem.nilv rfl rfl) c74 ?_; refine .gt (OpSem.fieldv rfl rfl fo122_1) c74 ?_; refine .gt (OpSem.tb1 (h := 0) rfl rfl rfl vs22) c74 ?_; refine .gt (OpSem.move (.inl rfl) rfl) c74 ?_; refine .gt (OpSem.idxv rfl rfl rfl es22 (hk.at (j := (lvTo t c g.w k)) (by omega) (by omega)) (by omega) (by omega)) c74 ?_; refine .gt (OpSem.tbB (h := 0) hk rfl rfl rfl vs3 (by omega) (by omega)) c74 ?_; refine .d0 mixed ?_; refine .gt c74 ?_; refine .x (.b blss) ?_; refine .ht c70 ?_; refine .x (OpSem.pickT rfl rfl c74 rfl) ?_; refine .x (OpSem.pickF rfl rfl c70 rfl) ?_; refine .sq <| .cond rfl (fun c91 => ?_) (fun c91 => ?_)
       ·have hc : lvC t c g.w (lvTo t c g.w k) k := .inr ⟨by simpa using c74, by simpa using c91⟩
        refine .r <| .m ?_; refine .a ?_; refine .n <| .n <| .y <| .x .ad ?_; refine .m ?_; refine .n <| .again (k + 1) (by omega) ?_ (by omega); exact .p2 <| .slot rfl (Le.i (by rw [lv_3 hp hp2 hc])) <| .sl <| .slot rfl (Le.of_eq (by simp)) <| .all
       ·have hc : ¬ lvC t c g.w (lvTo t c g.w k) k := fun h => h.elim (fun h => by simp [h] at c70) (fun h => by simp [h.2] at c91)
        refine .p <| .n <| .y <| .x .ad ?_; refine .m ?_; refine .n <| .again (k + 1) (by omega) ?_ (by omega); exact .p2 <| .slot rfl (Le.i (by rw [lv_4 hp hp2 hc])) <| .sl <| .slot rfl (Le.of_eq (by simp)) <| .all
      ·have hc : ¬ lvC t c g.w (lvTo t c g.w k) k := fun h => h.elim (fun h => by simp [h] at c70) (fun h => by simp [h.1] at c74)
       refine .gf c74 ?_; refine .gf c74 ?_; refine .gf c74 ?_; refine .gf c74 ?_; refine .gf c74 ?_; refine .gf c74 ?_; refine .gf c74 ?_; refine .gf c74 ?_; refine .gf c74 ?_; refine .gf c74 ?_; refine .gf c74 ?_; refine .gf c74 ?_; refine .gf c74 ?_; refine .gf c74 ?_; refine .d0 mixed ?_; refine .gf c74 ?_; refine .ht c70 ?_; refine .x (OpSem.pickF rfl rfl c74 rfl) ?_; refine .x (OpSem.pickF rfl rfl c70 rfl) ?_; refine .sq <| .condF rfl rfl ?_; refine .p <| .n <| .y <| .x .ad ?_; refine .m ?_; refine .n <| .again (k + 1) (by omega) ?_ (by omega); exact .p2 <| .slot rfl (Le.i (by rw [lv_4 hp hp2 hc])) <| .sl <| .slot rfl (Le.of_eq (by simp)) <| .all
  ·have hkl2 : k = t.bs.length := by simp at c17; omega
   subst hkl2
   refine .u <| .u <| .u <| .b <| .z <| .m ?_; refine .a ?_; exact .sq <| .t <| .retP (.inl rfl) rfl (.tmp rfl <| .nil) rfl rfl (rfl) (fun H => rfl)
theorem linear_tableau_maximize_P (g : Ids) (t : Tb) (hk : TabOk g t) (h2 : t.bs.length ≤ t.rs.length) (k : Nat) (t2 : Tb) (x : Int) (ob : Int) (n : Nat) (o0 : 0 ≤ ob) (o1 : ob < t.rs.length) (hn : n ≤ g.w) (hm : MaxN g.w ob n k t t2 x) : DoesP Tryz.prog 75 [ptr g.s 0, .int .i64 ob, .int .i64 (n : Int)] (.int .i64 x) (tabF g t) (tabF g t2) := by
 have hrm := hk.rm
 have hwm := hk.wm
 have hbm := hk.bm
 refine DoesP.of_body Tryz.func75 rfl rfl (by simp) Tryz.call75 (fun b => tab_dom b) (fun O0 Oc W => ?_); refine .g <| .r <| .a ?_; refine .sq <| .k <| .loop (X := (Nat × Tb)) (fun q => TabOk g q.2 ∧ q.2.bs.length = t.bs.length ∧ q.2.rs.length = t.rs.length ∧ Bnd q.2 ∧ MaxN g.w ob n q.1 q.2 t2 x) (fun q => [(0, .d (.v (ptr g.s 0))), (1, I (ob)), (2, I ((n : Int)))]) (fun q => [(0, tabM g q.2), (1000, .fr (frK Oc W))]) (fun q => q.1) (k, t) ⟨hk, rfl, rfl, hm.inv.1, hm⟩ ?_ ?_
 ·exact .all
 ·rintro q ⟨hq1, hq2, hq3, hqb, hq5⟩
  refine .k <| .g <| .r <| .a ?_; refine .sq <| .g <| .k <| .loop (X := Nat) (fun d => d ≤ n ∧ ∀ j : Nat, j < d → 0 ≤ cel q.2 ob j) (fun d => [(0, .d (.v (ptr g.s 0))), (1, I (ob)), (2, I ((n : Int))), (7, I (d))]) (fun d => [(0, tabM g q.2), (1000, .fr (frK Oc W))]) (fun d => n - d) 0 ⟨by omega, by simp⟩ ?_ ?_
  ·exact .p3 <| .slot rfl (Le.of_eq (by simp)) <| .all
  ·rintro d ⟨hdl, hal⟩
   refine .g <| .g <| .r <| .mm ?_; refine .x (.b blss) ?_; refine .m ?_; refine .split (n := 12) rfl (fun c12 => ?_) (fun c12 => ?_)
   ·have hd : d < n := by simp at c12; omega
    refine .gt c12 ?_; refine .m ?_; refine .gt c12 ?_; refine .x (OpSem.nilv rfl rfl) ?_; refine .gt c12 ?_; refine .x (OpSem.fieldv rfl rfl fo122_0) ?_; refine .gt c12 ?_; refine .x (OpSem.tb0 (h := 0) rfl rfl rfl vs58) ?_; refine .gt c12 ?_; refine .m ?_; refine .gt c12 ?_; refine .x (.ixv es58) ?_; refine .gt c12 ?_; refine .x (OpSem.tbR (h := 0) hq1 rfl rfl rfl vs22 (by omega) (by omega)) ?_; refine .gt c12 ?_; refine .m ?_; refine .gt c12 ?_; refine .x (.ixv es22) ?_; refine .gt c12 ?_; refine .x (OpSem.tbC (h := 0) hq1 rfl rfl rfl vs3 (by omega) (by omega) (by omega) (by omega)) ?_; refine .gt c12 ?_; refine .x (.b bgeq) ?_; refine .x (OpSem.pickT rfl rfl c12 rfl) ?_; refine .sq <| .cond rfl (fun c24 => ?_) (fun c24 => ?_)
    ·have hge : 0 ≤ cel q.2 ob d := by simpa using c24
     refine .p <| .g <| .k <| .r <| .m ?_; refine .x .ad ?_; refine .a ?_; refine .n <| .n <| .again (d + 1) ⟨by omega, all_succ hal hge⟩ ?_ (by omega); exact .p3 <| .slot rfl (Le.of_eq (by simp)) <| .all
    ·have hlt : cel q.2 ob d < 0 := by simp at c24; omega
     have hor : d = n ∨ (d < n ∧ cel q.2 ob d < 0) := .inr ⟨hd, hlt⟩
     refine .u <| .u <| .u <| .b <| .g <| .g <| .g <| .r <| .mm ?_; refine .x (.b beql) ?_; refine .sq <| .cond rfl (fun c29 => ?_) (fun c29 => ?_)
     ·have hd2 : d = n := by simp at c29; omega
      obtain ⟨e1, e2⟩ := hq5.all (by rw [← hd2]; exact hal)
      refine .g <| .r <| .a ?_; exact .sq <| .t <| .t <| .k <| .t <| .k <| .retP (.inl rfl) rfl (.tmp rfl <| .nil) rfl rfl (by rw [e1]) (fun H => by rw [e2]; rfl)
     ·have hd2 : d ≠ n := by simp at c29; omega
      have hE : Ent q.2 ob n d := ⟨(hor.resolve_left hd2).1, hal, (hor.resolve_left hd2).2⟩
      have hdn := hE.lt
      have hll := lvF_in (t := q.2) (c := (d : Int)) (w := g.w)
      refine .p <| .z <| .mm ?_; refine .ofSt (OpSt.callP (h := 0) (linear_tableau_leaving_P g q.2 hq1 hqb (d : Int) (by omega) (by omega) (by omega)) rfl rfl rfl (fun H => rfl)) rfl rfl rfl (by decide) ?_; refine .a ?_; refine .sq <| .g <| .g <| .r <| .m ?_; refine .x (.b blss) ?_; refine .sq <| .cond rfl (fun c34 => ?_) (fun c34 => ?_)
      ·obtain ⟨e1, e2⟩ := hq5.ent hE (by simpa using c34)
       refine .g <| .r <| .m ?_; refine .a ?_; exact .sq <| .t <| .t <| .k <| .t <| .k <| .retP (.inl rfl) rfl (.tmp rfl <| .nil) rfl rfl (by rw [e1]) (fun H => by rw [e2]; rfl)
      ·have hl : ¬ (lvF q.2 (d : Int) g.w) < 0 := by simpa using c34
       obtain ⟨k', e1, e2⟩ := hq5.next hE hl
       refine .p <| .y <| .mm ?_; refine .m ?_; refine .ofSt (OpSt.callP (h := 0) (linear_tableau_pivot_P g q.2 hq1 hqb (lvF q.2 (d : Int) g.w) (d : Int) (by omega) (by omega) (by omega) (by omega) (by omega)) rfl rfl rfl (fun H => rfl)) rfl rfl rfl (by decide) ?_; refine .n <| .n <| .again (k', pivF q.2 (lvF q.2 (d : Int) g.w) d) ⟨pivF_ok hq1, pivF_bl.trans hq2, pivF_rl.trans hq3, e2.inv.1, e2⟩ ?_ (by simp only []; omega)
       exact .all
   ·have hd : d = n := by simp at c12; omega
    have hor : d = n ∨ (d < n ∧ cel q.2 ob d < 0) := .inl hd
    refine .gf c12 ?_; refine .gf c12 ?_; refine .gf c12 ?_; refine .gf c12 ?_; refine .gf c12 ?_; refine .gf c12 ?_; refine .gf c12 ?_; refine .gf c12 ?_; refine .gf c12 ?_; refine .gf c12 ?_; refine .gf c12 ?_; refine .x (OpSem.pickF rfl rfl c12 rfl) ?_; refine .sq <| .condF rfl rfl ?_; refine .u <| .u <| .u <| .b <| .g <| .g <| .g <| .r <| .mm ?_; refine .x (.b beql) ?_; refine .sq <| .cond rfl (fun c29 => ?_) (fun c29 => ?_)
    ·have hd2 : d = n := by simp at c29; omega
     obtain ⟨e1, e2⟩ := hq5.all (by rw [← hd2]; exact hal)
     refine .g <| .r <| .a ?_; exact .sq <| .t <| .t <| .k <| .t <| .k <| .retP (.inl rfl) rfl (.tmp rfl <| .nil) rfl rfl (by rw [e1]) (fun H => by rw [e2]; rfl)
    ·have hd2 : d ≠ n := by simp at c29; omega
     have hE : Ent q.2 ob n d := ⟨(hor.resolve_left hd2).1, hal, (hor.resolve_left hd2).2⟩
     have hdn := hE.lt
     have hll := lvF_in (t := q.2) (c := (d : Int)) (w := g.w)
     refine .p <| .z <| .mm ?_; refine .ofSt (OpSt.callP (h := 0) (linear_tableau_leaving_P g q.2 hq1 hqb (d : Int) (by omega) (by omega) (by omega)) rfl rfl rfl (fun H => rfl)) rfl rfl rfl (by decide) ?_; refine .a ?_; refine .sq <| .g <| .g <| .r <| .m ?_; refine .x (.b blss) ?_; refine .sq <| .cond rfl (fun c34 => ?_) (fun c34 => ?_)
     ·obtain ⟨e1, e2⟩ := hq5.ent hE (by simpa using c34)
      refine .g <| .r <| .m ?_; refine .a ?_; exact .sq <| .t <| .t <| .k <| .t <| .k <| .retP (.inl rfl) rfl (.tmp rfl <| .nil) rfl rfl (by rw [e1]) (fun H => by rw [e2]; rfl)
     ·have hl : ¬ (lvF q.2 (d : Int) g.w) < 0 := by simpa using c34
      obtain ⟨k', e1, e2⟩ := hq5.next hE hl
      refine .p <| .y <| .mm ?_; refine .m ?_; refine .ofSt (OpSt.callP (h := 0) (linear_tableau_pivot_P g q.2 hq1 hqb (lvF q.2 (d : Int) g.w) (d : Int) (by omega) (by omega) (by omega) (by omega) (by omega)) rfl rfl rfl (fun H => rfl)) rfl rfl rfl (by decide) ?_; refine .n <| .n <| .again (k', pivF q.2 (lvF q.2 (d : Int) g.w) d) ⟨pivF_ok hq1, pivF_bl.trans hq2, pivF_rl.trans hq3, e2.inv.1, e2⟩ ?_ (by simp only []; omega)
      exact .all
theorem linear_tableau_start_P (g : Ids) (t : Tb) (hk : TabOk g t) (h2 : t.rs.length = t.bs.length + 2) (hw2 : 2 ≤ g.w) (b : Bool) (t3 : Tb) (hs : StartN g.w t t3 b) : DoesP Tryz.prog 73 [ptr g.s 0] (.bool b) (tabF g t) (tabF g t3) := by
 have hrm := hk.rm
 have hwm := hk.wm
 have hbm := hk.bm
 refine DoesP.of_body Tryz.func73 rfl rfl (by simp) Tryz.call73 (fun b => tab_dom b) (fun O0 Oc W => ?_); refine .g <| .r <| .a ?_; refine .z <| .m ?_; refine .x (OpSem.nilv rfl rfl) ?_; refine .x (OpSem.fieldv rfl rfl fo122_1) ?_; refine .x (OpSem.tb1 (h := 0) rfl rfl rfl vs22) ?_; refine .x (OpSem.lenv rfl rfl es22) ?_; refine .a ?_; refine .z <| .m ?_; refine .x (OpSem.nilv rfl rfl) ?_; refine .x (OpSem.fieldv rfl rfl fo122_0) ?_; refine .x (OpSem.tb0 (h := 0) rfl rfl rfl vs58) ?_; refine .m ?_; refine .x (.ixv es58) ?_; refine .x (OpSem.tbR (h := 0) hk rfl rfl rfl vs22 (by omega) (by omega)) ?_; refine .x (OpSem.lenv rfl rfl es22) ?_; refine .x .su ?_; refine .a ?_; refine .z <| .a ?_; refine .sq <| .g <| .g <| .r <| .m ?_; refine .x (OpSem.nilv rfl rfl) ?_; refine .x (OpSem.fieldv rfl rfl fo122_1) ?_; refine .x (OpSem.tb1 (h := 0) rfl rfl rfl vs22) ?_; refine .x (OpSem.lenv rfl rfl es22) ?_; refine .m ?_; refine .sq <| .k <| .loop (X := Nat) (fun k => k ≤ t.bs.length) (fun k => [(0, .d (.v (ptr g.s 0))), (3, I (t.bs.length)), (4, I (g.w - 1)), (5, I ((loTo t g.w k))), (28, I (t.bs.length)), (29, I (k))]) (fun k => [(0, tabM g t), (1000, .fr (frK Oc W))]) (fun k => t.bs.length - k) 0 (by omega) ?_ ?_
 ·exact .p3 <| .slot rfl (Le.of_eq rfl) <| .sl <| .slot rfl (Le.of_eq (by simp)) <| .all
 ·rintro k hkl
  refine .g <| .r <| .x (.b blss) ?_; refine .sq <| .g <| .cond rfl (fun c30 => ?_) (fun c30 => ?_)
  ·have hkl2 : k < t.bs.length := by simp at c30; omega
   have hbi := lo_in (t := t) (w := g.w) (k := k)
   refine .p <| .g <| .g <| .k <| .g <| .r <| .m ?_; refine .a ?_; refine .sq <| .g <| PC.start [] ?_; refine .m ?_; refine .x (OpSem.nilv rfl rfl) ?_; refine .x (OpSem.fieldv rfl rfl fo122_0) ?_; refine .x (OpSem.tb0 (h := 0) rfl rfl rfl vs58) ?_; refine .m ?_; refine .x (.ixv es58) ?_; refine .x (OpSem.tbR (h := 0) hk rfl rfl rfl vs22 (by omega) (by omega)) ?_; refine .m ?_; refine .x (.ixv es22) ?_; refine .x (OpSem.tbC (h := 0) hk rfl rfl rfl vs3 (by omega) (by omega) (by omega) (by omega)) ?_; refine .x (.b blss) ?_; refine .m ?_; refine .split (n := 43) rfl (fun c43 => ?_) (fun c43 => ?_)
   ·refine .gt (OpSem.move (.inl rfl) rfl) c43 ?_; refine .gt (.b blss) c43 ?_; refine .gt (OpSem.move (.inl rfl) rfl) c43 ?_; refine .split (n := 46) rfl (fun c46 => ?_) (fun c46 => ?_)
    ·have hc : loC t g.w (loTo t g.w k) k := ⟨by simpa using c43, .inl (by simpa using c46)⟩
     refine .hf c46 ?_; refine .hf c46 ?_; refine .hf c46 ?_; refine .hf c46 ?_; refine .hf c46 ?_; refine .hf c46 ?_; refine .hf c46 ?_; refine .hf c46 ?_; refine .hf c46 ?_; refine .hf c46 ?_; refine .hf c46 ?_; refine .hf c46 ?_; refine .hf c46 ?_; refine .hf c46 ?_; refine .hf c46 ?_; refine .hf c46 ?_; refine .hf c46 ?_; refine .hf c46 ?_; refine .hf c46 ?_; refine .hf c46 ?_; refine .hf c46 ?_; refine .gt (OpSem.pickT rfl rfl c46 rfl) c43 ?_; refine .x (OpSem.pickT rfl rfl c43 rfl) ?_; refine .d0 mixed ?_; refine .sq <| .condT rfl rfl ?_; refine .r <| .m ?_; refine .a ?_; refine .n <| .n <| .y <| .x .ad ?_; refine .m ?_; refine .n <| .again (k + 1) (by omega) ?_ (by omega); exact .p3 <| .slot rfl (Le.i (by rw [lo_t hc])) <| .sl <| .slot rfl (Le.of_eq (by simp)) <| .all
    ·have hbp : 0 ≤ (loTo t g.w k) := by simpa using c46
     refine .ht (OpSem.move (.inl rfl) rfl) c46 ?_; refine .ht (OpSem.nilv rfl rfl) c46 ?_; refine .ht (OpSem.fieldv rfl rfl fo122_0) c46 ?_; refine .ht (OpSem.tb0 (h := 0) rfl rfl rfl vs58) c46 ?_; refine .ht (OpSem.move (.inl rfl) rfl) c46 ?_; refine .ht (.ixv es58) c46 ?_; refine .ht (OpSem.tbR (h := 0) hk rfl rfl rfl vs22 (by omega) (by omega)) c46 ?_; refine .ht (OpSem.move (.inl rfl) rfl) c46 ?_; refine .ht (.ixv es22) c46 ?_; refine .ht (OpSem.tbC (h := 0) hk rfl rfl rfl vs3 (by omega) (by omega) (by omega) (by omega)) c46 ?_; refine .ht (OpSem.move (.inl rfl) rfl) c46 ?_; refine .ht (OpSem.nilv rfl rfl) c46 ?_; refine .ht (OpSem.fieldv rfl rfl fo122_0) c46 ?_; refine .ht (OpSem.tb0 (h := 0) rfl rfl rfl vs58) c46 ?_; refine .ht (OpSem.move (.inl rfl) rfl) c46 ?_; refine .ht (.ixv es58) c46 ?_; refine .ht (OpSem.tbR (h := 0) hk rfl rfl rfl vs22 (by omega) (by omega)) c46 ?_; refine .ht (OpSem.move (.inl rfl) rfl) c46 ?_; refine .ht (.ixv es22) c46 ?_; refine .ht (OpSem.tbC (h := 0) hk rfl rfl rfl vs3 (by omega) (by omega) (by omega) (by omega)) c46 ?_; refine .ht (.b blss) c46 ?_; refine .gt (OpSem.pickF rfl rfl c46 rfl) c43 ?_; refine .x (OpSem.pickT rfl rfl c43 rfl) ?_; refine .d0 mixed ?_; refine .sq <| .cond rfl (fun c69 => ?_) (fun c69 => ?_)
     ·have hc : loC t g.w (loTo t g.w k) k := ⟨by simpa using c43, .inr (by simpa using c69)⟩
      refine .r <| .m ?_; refine .a ?_; refine .n <| .n <| .y <| .x .ad ?_; refine .m ?_; refine .n <| .again (k + 1) (by omega) ?_ (by omega); exact .p3 <| .slot rfl (Le.i (by rw [lo_t hc])) <| .sl <| .slot rfl (Le.of_eq (by simp)) <| .all
     ·have hc : ¬ loC t g.w (loTo t g.w k) k := fun h => h.2.elim (fun h => by simp [h] at c46) (fun h => by simp [h] at c69)
      refine .p <| .n <| .y <| .x .ad ?_; refine .m ?_; refine .n <| .again (k + 1) (by omega) ?_ (by omega); exact .p3 <| .slot rfl (Le.i (by rw [lo_f hc])) <| .sl <| .slot rfl (Le.of_eq (by simp)) <| .all
   ·have hc : ¬ loC t g.w (loTo t g.w k) k := fun h => by simp [h.1] at c43
    refine .gf c43 ?_; refine .gf c43 ?_; refine .gf c43 ?_; refine .gU rfl rfl rfl rfl rfl ?_; refine .gU rfl rfl rfl rfl rfl ?_; refine .gU rfl rfl rfl rfl rfl ?_; refine .gU rfl rfl rfl rfl rfl ?_; refine .gU rfl rfl rfl rfl rfl ?_; refine .gU rfl rfl rfl rfl rfl ?_; refine .gU rfl rfl rfl rfl rfl ?_; refine .gU rfl rfl rfl rfl rfl ?_; refine .gU rfl rfl rfl rfl rfl ?_; refine .gU rfl rfl rfl rfl rfl ?_; refine .gU rfl rfl rfl rfl rfl ?_; refine .gU rfl rfl rfl rfl rfl ?_; refine .gU rfl rfl rfl rfl rfl ?_; refine .gU rfl rfl rfl rfl rfl ?_; refine .gU rfl rfl rfl rfl rfl ?_; refine .gU rfl rfl rfl rfl rfl ?_; refine .gU rfl rfl rfl rfl rfl ?_; refine .gU rfl rfl rfl rfl rfl ?_; refine .gU rfl rfl rfl rfl rfl ?_; refine .gU rfl rfl rfl rfl rfl ?_; refine .gU rfl rfl rfl rfl rfl ?_; refine .gf c43 ?_; refine .x (OpSem.pickF rfl rfl c43 rfl) ?_; refine .d0 mixed ?_; refine .sq <| .condF rfl rfl ?_; refine .p <| .n <| .y <| .x .ad ?_; refine .m ?_; refine .n <| .again (k + 1) (by omega) ?_ (by omega); exact .p3 <| .slot rfl (Le.i (by rw [lo_f hc])) <| .sl <| .slot rfl (Le.of_eq (by simp)) <| .all
  ·have hkl2 : k = t.bs.length := by simp at c30; omega
   subst hkl2
   have hbi := loF_in (t := t) (w := g.w)
   refine .u <| .u <| .u <| .b <| .g <| .g <| .g <| .r <| .m ?_; refine .x (.b blss) ?_; refine .sq <| .cond rfl (fun c73 => ?_) (fun c73 => ?_)
   ·have hl : loF t g.w < 0 := of_decide_eq_true c73
    obtain ⟨e1, e2⟩ := hs.pos2 hl
    refine .g <| .r <| .a ?_; exact .sq <| .t <| .t <| .retP (.inl rfl) rfl (.tmp rfl <| .nil) rfl rfl (by rw [e1]) (fun H => by rw [e2]; rfl)
   ·have hl : ¬ loF t g.w < 0 := of_decide_eq_false c73
    obtain ⟨hb, k, t2, x, hm, hrest⟩ := hs.neg2 hl
    obtain ⟨z1, z2, z3, z4⟩ := hm.ok (pivF_ok hk)
    rw [pivF_bl] at z2
    rw [pivF_rl] at z3
    refine .p <| .z <| .mm ?_; refine .m ?_; refine .x (OpSem.le (s' := I ((g.w : Int) - 2)) .su (Le.i (by omega))) ?_; refine .ofSt (OpSt.callP (h := 0) (linear_tableau_pivot_P g t hk hb (loF t g.w) ((g.w : Int) - 2) (by omega) (by omega) (by omega) (by omega) (by omega)) rfl rfl rfl (fun H => rfl)) rfl rfl rfl (by decide) ?_; refine .z <| .mm ?_; refine .x .ad ?_; refine .x (OpSem.le (s' := I ((g.w - 1 : Nat) : Int)) (OpSem.move (.inl rfl) rfl) (Le.i (by omega))) ?_; refine .ofSt (OpSt.callP (h := 0) (linear_tableau_maximize_P g _ (pivF_ok hk) (by rw [pivF_bl, pivF_rl]; omega) k t2 x ((t.bs.length : Int) + 1) (g.w - 1) (by omega) (by rw [pivF_rl]; omega) (by omega) hm) rfl rfl rfl (fun H => rfl)) rfl rfl rfl (by decide) ?_; refine .sq <| .g <| .g <| .r <| .m ?_; refine .x (OpSem.nilv rfl rfl) ?_; refine .x (OpSem.fieldv rfl rfl fo122_0) ?_; refine .x (OpSem.tb0 (h := 0) rfl rfl rfl vs58) ?_; refine .m ?_; refine .x .ad ?_; refine .x (.ixv es58) ?_; refine .x (OpSem.tbR (h := 0) z1 rfl rfl rfl vs22 (by omega) (by omega)) ?_; refine .m ?_; refine .x (.ixv es22) ?_; refine .x (OpSem.tbC (h := 0) z1 rfl rfl rfl vs3 (by omega) (by omega) (by omega) (by omega)) ?_; refine .x (.b blss) ?_; refine .sq <| .cond rfl (fun c95 => ?_) (fun c95 => ?_)
    ·obtain ⟨e1, e2⟩ := hrest.1 (by simpa using c95)
     refine .g <| .r <| .a ?_; exact .sq <| .t <| .t <| .retP (.inl rfl) rfl (.tmp rfl <| .nil) rfl rfl (by rw [e1]) (fun H => by rw [e2]; rfl)
    ·obtain ⟨e1, hd⟩ := hrest.2 (by simpa using c95)
     refine .p <| .g <| .g <| .g <| .r <| .m ?_; refine .x (OpSem.nilv rfl rfl) ?_; refine .x (OpSem.fieldv rfl rfl fo122_1) ?_; refine .x (OpSem.tb1 (h := 0) rfl rfl rfl vs22) ?_; refine .x (OpSem.lenv rfl rfl es22) ?_; refine .m ?_; refine .sq <| .k <| .loop (X := (Nat × Tb)) (fun q => TabOk g q.2 ∧ q.2.bs.length = t.bs.length ∧ q.2.rs.length = t.rs.length ∧ DrvN g.w q.1 q.2 t3) (fun q => [(0, .d (.v (ptr g.s 0))), (4, I (g.w - 1)), (99, .d (.v (.slice g.ba t2.bs.length g.bc))), (100, I (t2.bs.length)), (101, I (q.1))]) (fun q => [(0, tabM g q.2), (1000, .fr (frK Oc W))]) (fun q => t.bs.length - q.1) (0, t2) ⟨z1, z2, z3, hd⟩ ?_ ?_
     ·exact .p3 <| .sl <| .slot rfl (Le.of_eq (by simp)) <| .all
     ·rintro q ⟨hq1, hq2, hq3, hqd⟩
      refine .g <| .r <| .x (.b blss) ?_; refine .sq <| .g <| .cond rfl (fun c102 => ?_) (fun c102 => ?_)
      ·have hr : q.1 < q.2.bs.length := by simp at c102; omega
       refine .p <| .g <| .g <| .k <| .g <| .r <| .m ?_; refine .x (OpSem.idxv rfl rfl rfl es22 (hq1.at (j := q.1) (by omega) (by omega)) (by omega) (by omega)) ?_; refine .x (OpSem.tbB (h := 0) hq1 rfl rfl rfl vs3 (by omega) (by omega)) ?_; refine .a ?_; refine .a ?_; refine .sq <| .g <| .g <| .r <| .mm ?_; refine .x .su ?_; refine .x (.b bneq) ?_; refine .sq <| .cond rfl (fun c109 => ?_) (fun c109 => ?_)
       ·have hne : nth q.2.bs q.1 ≠ (g.w : Int) - 2 := by simp at c109; omega
        have hnx := hqd.next hr hne
        refine .u <| .u <| .b <| .y <| .x .ad ?_; refine .m ?_; refine .n <| .again (q.1 + 1, q.2) ⟨hq1, hq2, hq3, hnx⟩ ?_ (by simp only []; omega)
        exact .p3 <| .sl <| .slot rfl (Le.of_eq (by simp)) <| .all
       ·have hne : nth q.2.bs q.1 = (g.w : Int) - 2 := by simp at c109; omega
        obtain ⟨hqb, c0, hnz, hnx⟩ := hqd.go hr hne
        have hnzl := hnz.lt
        refine .p <| .z <| .a ?_; refine .sq <| .g <| .k <| .loop (X := Nat) (fun c => c ≤ c0) (fun c => [(0, .d (.v (ptr g.s 0))), (4, I (g.w - 1)), (7, I (q.1)), (9, I (c)), (99, .d (.v (.slice g.ba t2.bs.length g.bc))), (100, I (t2.bs.length)), (101, I (q.1))]) (fun c => [(0, tabM g q.2), (1000, .fr (frK Oc W))]) (fun c => c0 - c) 0 (by omega) ?_ ?_
        ·exact .p3 <| .slot rfl (Le.of_eq (by simp)) <| .all
        ·rintro c hcl
         refine .g <| .g <| .r <| .m ?_; refine .x (OpSem.nilv rfl rfl) ?_; refine .x (OpSem.fieldv rfl rfl fo122_0) ?_; refine .x (OpSem.tb0 (h := 0) rfl rfl rfl vs58) ?_; refine .m ?_; refine .x (.ixv es58) ?_; refine .x (OpSem.tbR (h := 0) hq1 rfl rfl rfl vs22 (by omega) (by omega)) ?_; refine .m ?_; refine .x (.ixv es22) ?_; refine .x (OpSem.tbC (h := 0) hq1 rfl rfl rfl vs3 (by omega) (by omega) (by omega) (by omega)) ?_; refine .x (.b beql) ?_; refine .sq <| .cond rfl (fun c120 => ?_) (fun c120 => ?_)
         ·have hz : cel q.2 q.1 c = 0 := by simpa using c120
          have hcl2 : c < c0 := (Nat.lt_or_ge c c0).elim id (fun h => absurd (by rw [← (by omega : c = c0)]; exact hz) hnz.hit)
          refine .p <| .g <| .k <| .r <| .m ?_; refine .x .ad ?_; refine .a ?_; refine .n <| .n <| .again (c + 1) (by omega) ?_ (by omega); exact .p3 <| .slot rfl (Le.of_eq (by simp)) <| .all
         ·have hcc : c = c0 := (Nat.lt_or_ge c c0).elim (fun h => absurd (hnz.all c h) (of_decide_eq_false c120)) (fun h => by omega)
          subst hcc
          refine .u <| .u <| .u <| .b <| .y <| .mm ?_; refine .m ?_; refine .ofSt (OpSt.callP (h := 0) (linear_tableau_pivot_P g q.2 hq1 hqb (q.1 : Int) (c : Int) (by omega) (by omega) (by omega) (by omega) (by omega)) rfl rfl rfl (fun H => rfl)) rfl rfl rfl (by decide) ?_; refine .n <| .n <| .y <| .x .ad ?_; refine .m ?_; refine .n <| .again (q.1 + 1, pivF q.2 q.1 c) ⟨pivF_ok hq1, pivF_bl.trans hq2, pivF_rl.trans hq3, hnx⟩ ?_ (by simp only []; omega)
          exact .p3 <| .sl <| .slot rfl (Le.of_eq (by simp)) <| .all
      ·have hr : q.1 = q.2.bs.length := by have := hqd.le; simp at c102; omega
       have e2 := hqd.end hr
       refine .u <| .u <| .u <| .b <| .z <| .a ?_; exact .sq <| .t <| .retP (.inl rfl) rfl (.tmp rfl <| .nil) rfl rfl (by rw [e2]) (fun H => by rw [e1]; rfl)
end Go.Proofs.YthjmgcopfipabaaGreat
end

section
namespace Go.Proofs.YthjmgcopfipabaaGreat
open Go.Eng
set_option maxRecDepth 10000
set_option maxHeartbeats 1000000
theorem linear_gcd_does (a b : Int) (ha : a.natAbs ≤ 4611686018427387904) (hb : b.natAbs ≤ 4611686018427387904) : Does Tryz.prog false 112 [I (a), I (b)] (I (Int.gcd a b : Int)) := by
 refine Does.of_body Tryz.func112 rfl rfl (by simp) Tryz.call112 (fun w0 O0 => ?_); refine .g <| .r <| .a ?_; refine .sq <| .g <| .k <| .loop (X := (Int × Int)) (fun q => Int.gcd q.1 q.2 = Int.gcd a b ∧ q.1.natAbs ≤ 4611686018427387904 ∧ q.2.natAbs ≤ 4611686018427387904) (fun q => [(0, I (q.1)), (1, I (q.2))]) (fun q => []) (fun q => q.2.natAbs) (a, b) ⟨rfl, ha, hb⟩ ?_ ?_
 ·exact .all
 ·rintro q ⟨h1, h2, h3⟩
  refine .g <| .g <| .r <| .m ?_; refine .x (.b bneq) ?_; refine .sq <| .cond rfl (fun c6 => ?_) (fun c6 => ?_)
  ·have hq : q.2 ≠ 0 := by simpa using c6
   have hlt := tmod_lt (a := q.1) hq
   refine .p <| .g <| .k <| PC.start [] ?_; refine .mm ?_; refine .m ?_; refine .x (OpSem.bin rfl rfl rfl (bremT hq)) ?_; refine .x (OpSem.move (.inr rfl) rfl) ?_; refine .d0 mixed ?_; refine .a ?_; refine .n <| .n <| .again (q.2, q.1.tmod q.2) ⟨gcd_step.trans h1, h3, by simp only []; omega⟩ ?_ (by simp only []; omega)
   exact .all
  ·have hq : q.2 = 0 := by simpa using c6
   rw [hq] at h1
   refine .u <| .u <| .u <| .b <| .z <| .mm ?_; refine .x (OpSem.neg rfl rfl (neg_in (by omega) (by omega))) ?_; refine .x (OpSem.max2 rfl rfl rfl) ?_; refine .a ?_; exact .sq <| .t <| .ret rfl (.tmp rfl <| .nil) rfl (Le.i (by rw [gcd_max, h1]))
theorem fraction_gcd_does (a b : Int) (ha : a.natAbs ≤ 4611686018427387904) (hb : b.natAbs ≤ 4611686018427387904) : Does Tryz.prog false 129 [I (a), I (b)] (I (Int.gcd a b : Int)) := by
 refine Does.of_body Tryz.func129 rfl rfl (by simp) Tryz.call129 (fun w0 O0 => ?_); refine .g <| .r <| .a ?_; refine .sq <| .g <| .k <| .loop (X := (Int × Int)) (fun q => Int.gcd q.1 q.2 = Int.gcd a b ∧ q.1.natAbs ≤ 4611686018427387904 ∧ q.2.natAbs ≤ 4611686018427387904) (fun q => [(0, I (q.1)), (1, I (q.2))]) (fun q => []) (fun q => q.2.natAbs) (a, b) ⟨rfl, ha, hb⟩ ?_ ?_
 ·exact .all
 ·rintro q ⟨h1, h2, h3⟩
  refine .g <| .g <| .r <| .m ?_; refine .x (.b bneq) ?_; refine .sq <| .cond rfl (fun c6 => ?_) (fun c6 => ?_)
  ·have hq : q.2 ≠ 0 := by simpa using c6
   have hlt := tmod_lt (a := q.1) hq
   refine .p <| .g <| .k <| PC.start [] ?_; refine .mm ?_; refine .m ?_; refine .x (OpSem.bin rfl rfl rfl (bremT hq)) ?_; refine .x (OpSem.move (.inr rfl) rfl) ?_; refine .d0 mixed ?_; refine .a ?_; refine .n <| .n <| .again (q.2, q.1.tmod q.2) ⟨gcd_step.trans h1, h3, by simp only []; omega⟩ ?_ (by simp only []; omega)
   exact .all
  ·have hq : q.2 = 0 := by simpa using c6
   rw [hq] at h1
   refine .u <| .u <| .u <| .b <| .z <| .mm ?_; refine .x (OpSem.neg rfl rfl (neg_in (by omega) (by omega))) ?_; refine .x (OpSem.max2 rfl rfl rfl) ?_; refine .a ?_; exact .sq <| .t <| .ret rfl (.tmp rfl <| .nil) rfl (Le.i (by rw [gcd_max, h1]))
theorem linear_within_does (n m : Int) (h0 : 0 ≤ m) (h1 : m ≤ 1000000000) : Does Tryz.prog false 110 [I (n), I (m)] (Bo (decide (-m ≤ n ∧ n ≤ m))) := by
 refine Does.of_body Tryz.func110 rfl rfl (by simp) Tryz.call110 (fun w0 O0 => ?_); refine .g <| .r <| .a ?_; refine .z <| .mm ?_; refine .x (OpSem.neg rfl rfl (neg_in (by omega) (by omega))) ?_; refine .x (.b bgeq) ?_; refine .m ?_; refine .split (n := 9) rfl (fun c9 => ?_) (fun c9 => ?_)
 ·refine .gt c9 ?_; refine .m ?_; refine .gt c9 ?_; refine .m ?_; refine .gt c9 ?_; refine .x (.b bleq) ?_; refine .x (OpSem.pickT rfl rfl c9 rfl) ?_; refine .a ?_; exact .sq <| .t <| .ret rfl (.tmp rfl <| .nil) rfl (Le.bo (by simp at c9; simp [c9]))
 ·refine .gf c9 ?_; refine .gf c9 ?_; refine .gf c9 ?_; refine .x (OpSem.pickF rfl rfl c9 rfl) ?_; refine .a ?_; exact .sq <| .t <| .ret rfl (.tmp rfl <| .nil) rfl (Le.bo (by simp at c9; simp; omega))
theorem linear_Validate_does (p : LPr) (hp : LpOk p) : Does Tryz.prog false 71 [lprS p] (flt (0, 0)) := by
 have q1 := hp.r6
 have q2 := hp.o6
 have q3 := hp.b
 refine Does.of_body Tryz.func71 rfl rfl (by simp) Tryz.call71 (fun w0 O0 => ?_); refine .lg 0 0 fun len0_0 => ?_; refine .lg 0 1 fun len0_1 => ?_; refine .lg 0 2 fun len0_2 => ?_; refine .g <| .r <| .bx 1 ?_; refine .al 2 zc28 ?_; refine .sq <| .g <| .k <| .g <| .r <| .x (.f fo81_0) ?_; refine .x (.l vs58) ?_; refine .x (.n es58) ?_; refine .x (.b bgtr) ?_; refine .m ?_; refine .split (n := 14) rfl (fun c14 => ?_) (fun c14 => ?_)
 ·exfalso; simp at c14; omega
 ·refine .ht c14 ?_; refine .x (.f fo81_2) ?_; refine .ht c14 ?_; refine .x (.l vs22) ?_; refine .ht c14 ?_; refine .x (.n es22) ?_; refine .ht c14 ?_; refine .x (.b bgtr) ?_; refine .x (OpSem.pickF rfl rfl c14 rfl) ?_; refine .a ?_; refine .sq <| .cond rfl (fun c9 => ?_) (fun c9 => ?_)
  ·exfalso; simp at c9; omega
  ·refine .g <| .r <| .x (.f fo81_1) ?_; refine .x (.l vs22) ?_; refine .x (.n es22) ?_; refine .x (.f fo81_0) ?_; refine .x (.l vs58) ?_; refine .x (.n es58) ?_; refine .x (.b bneq) ?_; refine .a ?_; refine .sq <| .cond rfl (fun c21 => ?_) (fun c21 => ?_)
   ·exfalso; simp at c21; omega
   ·refine .p <| .n <| .g <| .g <| .g <| .r <| .x (.f fo81_2) ?_; refine .x (.l vs22) ?_; refine .x (.n es22) ?_; refine .m ?_; refine .sq <| .k <| .loop (X := Nat) (fun k => k ≤ p.obj.length) (fun k => [(1, .r 1 0), (2, .r 2 0), (31, .d (ints p.obj)), (32, I (p.obj.length)), (33, I (k))]) (fun k => [(1, .box [.d (rows p.rws), .d (ints p.bnd), .d (ints p.obj)]), (2, .box [I (0), I (0)])]) (fun k => p.obj.length - k) 0 (by omega) ?_ ?_
    ·exact .p3 <| .sl <| .slot rfl (Le.of_eq (by simp)) <| .all
    ·rintro k hkl
     refine .g <| .r <| .x (.b blss) ?_; refine .sq <| .g <| .cond rfl (fun c34 => ?_) (fun c34 => ?_)
     ·have hk : k < p.obj.length := by simpa using c34
      have ho := hp.o k hk
      refine .p <| .g <| .g <| .k <| .g <| .r <| .x (.i es22) ?_; refine .x (.l1 vs3) ?_; refine .a ?_; refine .z <| .m ?_; refine .x (OpSem.call0 (linear_within_does (nth p.obj k) 20 (by omega) (by omega)) rfl rfl rfl rfl (Les.refl _)) ?_; refine .x .nt ?_; refine .sq <| .cond rfl (fun c39 => ?_) (fun c39 => ?_)
      ·exfalso; simp at c39; omega
      ·refine .p <| .n <| .y <| .x .ad ?_; refine .m ?_; refine .n <| .again (k + 1) (by omega) ?_ (by omega); exact .p3 <| .sl <| .slot rfl (Le.of_eq (by simp)) <| .all
     ·have hk : k = p.obj.length := by simp at c34; omega
      refine .u <| .u <| .u <| .b <| .g <| .g <| .g <| .r <| .x (.f fo81_0) ?_; refine .x (.l vs58) ?_; refine .x (.n es58) ?_; refine .m ?_; refine .sq <| .k <| .loop (X := Nat) (fun k => k ≤ p.rws.length) (fun k => [(1, .r 1 0), (2, .r 2 0), (43, .d (rows p.rws)), (44, I (p.rws.length)), (45, I (k))]) (fun k => [(1, .box [.d (rows p.rws), .d (ints p.bnd), .d (ints p.obj)]), (2, .box [I (0), I (0)])]) (fun k => p.rws.length - k) 0 (by omega) ?_ ?_
      ·exact .p3 <| .sl <| .slot rfl (Le.of_eq (by simp)) <| .all
      ·rintro k hkl
       refine .g <| .r <| .x (.b blss) ?_; refine .sq <| .g <| .cond rfl (fun c46 => ?_) (fun c46 => ?_)
       ·have hk : k < p.rws.length := by simpa using c46
        have hw := hp.w k hk
        have hb := hp.bb k hk
        refine .p <| .g <| .g <| .k <| .g <| .r <| .m ?_; refine .x (.i es58) ?_; refine .x (.l1 vs22) ?_; refine .a ?_; refine .a ?_; refine .sq <| .g <| .g <| .r <| .m ?_; refine .x (.n es22) ?_; refine .x (.f fo81_2) ?_; refine .x (.l vs22) ?_; refine .x (.n es22) ?_; refine .x (.b bneq) ?_; refine .sq <| .cond rfl (fun c55 => ?_) (fun c55 => ?_)
        ·exfalso; simp at c55; omega
        ·refine .p <| .g <| .g <| .g <| .r <| .x (.f fo81_1) ?_; refine .x (.l vs22) ?_; refine .m ?_; refine .x (.i es22) ?_; refine .x (.l1 vs3) ?_; refine .x (OpSem.call0 (linear_within_does (nth p.bnd k) 20 (by omega) (by omega)) rfl rfl rfl rfl (Les.refl _)) ?_; refine .x .nt ?_; refine .sq <| .cond rfl (fun c64 => ?_) (fun c64 => ?_)
         ·exfalso; simp at c64; omega
         ·refine .p <| .z <| .m ?_; refine .x (.n es22) ?_; refine .m ?_; refine .sq <| .k <| .loop (X := Nat) (fun l => l ≤ (nth p.rws k).length) (fun l => [(1, .r 1 0), (2, .r 2 0), (5, I (k)), (43, .d (rows p.rws)), (44, I (p.rws.length)), (45, I (k)), (67, .d (ints (nth p.rws k))), (68, I ((nth p.rws k).length)), (69, I (l))]) (fun l => [(1, .box [.d (rows p.rws), .d (ints p.bnd), .d (ints p.obj)]), (2, .box [I (0), I (0)])]) (fun l => (nth p.rws k).length - l) 0 (by omega) ?_ ?_
          ·exact .p5 <| .p3 <| .slot rfl (Le.of_eq (by simp)) <| .all
          ·rintro l hll
           refine .g <| .r <| .x (.b blss) ?_; refine .sq <| .g <| .cond rfl (fun c70 => ?_) (fun c70 => ?_)
           ·have hl : l < (nth p.rws k).length := by simpa using c70
            have hc := hp.c k hk l (by omega)
            refine .p <| .g <| .g <| .k <| .g <| .r <| .x (.i es22) ?_; refine .x (.l1 vs3) ?_; refine .a ?_; refine .z <| .m ?_; refine .x (OpSem.call0 (linear_within_does (nth (nth p.rws k) l) 4 (by omega) (by omega)) rfl rfl rfl rfl (Les.refl _)) ?_; refine .x .nt ?_; refine .sq <| .cond rfl (fun c75 => ?_) (fun c75 => ?_)
            ·exfalso; simp at c75; omega
            ·refine .p <| .n <| .y <| .x .ad ?_; refine .m ?_; refine .n <| .again (l + 1) (by omega) ?_ (by omega); exact .p5 <| .p3 <| .slot rfl (Le.of_eq (by simp)) <| .all
           ·have hl : l = (nth p.rws k).length := by simp at c70; omega
            refine .u <| .u <| .u <| .b <| .n <| .y <| .x .ad ?_; refine .m ?_; refine .n <| .again (k + 1) (by omega) ?_ (by omega); exact .p3 <| .sl <| .slot rfl (Le.of_eq (by simp)) <| .all
       ·have hk : k = p.rws.length := by simp at c46; omega
        refine .u <| .u <| .u <| .b <| .z <| .x (.bd pl28 zc28) ?_; refine .sb vs28 ?_; exact .sq <| .t <| .ret rfl (.cellN rfl rfl vs28 <| .nil) rfl (.refl _)
theorem linear_vector_does (l : List Int) (d : Int) (hl : l.length ≤ 1000000) (hd : 0 < d) (hd2 : inB d) (hx : ∀ x, x ∈ l → inB x) : Does Tryz.prog false 74 [.d (ints l), I (d)] (.g [.d (ints (vnL l d)), I (d.tdiv (vgF l d))]) := by
 unfold inB at hd2
 have hg := vg_pos (l := l) hd (k := l.length)
 have hge : vgF l d = vgTo l d l.length := rfl
 refine Does.of_body Tryz.func74 rfl rfl (by simp) Tryz.call74 (fun w0 O0 => ?_); refine .le 0 fun len0 => ?_; refine .g <| .r <| .al 4 zc85 ?_; refine .z <| .m ?_; refine .a ?_; refine .sq <| .g <| .g <| .r <| .m ?_; refine .x (.n es22) ?_; refine .m ?_; refine .sq <| .k <| .loop (X := Nat) (fun k => k ≤ l.length) (fun k => [(0, .d (ints l)), (1, I (d)), (4, .r 4 0), (5, I (vgTo l d k)), (12, .d (ints l)), (13, I (l.length)), (14, I (k))]) (fun k => [(4, .box [.d (.v (.slice none 0 0)), I (0)])]) (fun k => l.length - k) 0 (by omega) ?_ ?_
 ·exact .p3 <| .slot rfl (Le.of_eq rfl) <| .p2 <| .slot rfl (Le.of_eq (by simp)) <| .mem rfl <| .nil
 ·rintro k hkl
  refine .g <| .r <| .x (.b blss) ?_; refine .sq <| .g <| .cond rfl (fun c15 => ?_) (fun c15 => ?_)
  ·have hk : k < l.length := by simpa using c15
   have hgk := vg_pos (l := l) hd (k := k)
   have hxk := hx _ (nth_mem (l := l) (n := (k : Int)) (by omega) (by omega))
   unfold inB at hxk
   refine .p <| .g <| .g <| .k <| .g <| .r <| .x (.i es22) ?_; refine .x (.l1 vs3) ?_; refine .a ?_; refine .y <| .mm ?_; refine .x (OpSem.call0 (linear_gcd_does (vgTo l d k) (nth l k) (by omega) (by omega)) rfl rfl rfl rfl (Les.refl _)) ?_; refine .a ?_; refine .n <| .n <| .y <| .x .ad ?_; refine .m ?_; refine .n <| .again (k + 1) (by omega) ?_ (by omega); exact .p3 <| .slot rfl (Le.of_eq rfl) <| .p2 <| .slot rfl (Le.of_eq (by simp)) <| .mem rfl <| .nil
  ·have hk : k = l.length := by simp at c15; omega
   subst hk
   refine .u <| .u <| .u <| .b <| .g <| .g <| .weak (s' := I (vgF l d)) 5 rfl (Le.refl _) ?_; refine .lattice 9 [Ff, Ff, Ff, Ff, Ff, Ff, Ff, Ff, Ff] mixed rfl rfl ?_; refine .share 0 [Tt, Tt, Tt, Tt, Tt, Tt, Tt, Tt, Tt] [(0, .d (ints l)), (1, I (d)), (4, .r 4 0), (5, I (vgF l d)), (8, .r 8 0)] [(4, .box [.d (.v (.slice none 0 0)), I (0)]), (8, .box [.o 24, I (d.tdiv (vgF l d))]), (24, .own 1 3 ((vnS l d 0).map fun n => [D.v (.int .i64 n)]))] ?_ (fun h_42 => ?_)
   ·refine .fin (by kernel_rfl) ?_; refine .g <| .g <| .g <| .r <| .m ?_; refine .x (.n es22) ?_; refine .m ?_; refine .sq <| .k <| .loop (X := Nat) (fun k => k ≤ l.length) (fun k => [(4, .r 4 0), (5, I (vgF l d)), (8, .r 8 0), (29, .d (ints l)), (30, I (l.length)), (31, I (k))]) (fun k => [(8, .box [.o 24, I (d.tdiv (vgF l d))]), (24, .own 1 3 ((vnS l d k).map fun n => [D.v (.int .i64 n)])), (4, .box [.d (.v (.slice none 0 0)), I (0)])]) (fun k => l.length - k) 0 (by omega) ?_ ?_
    ·exact .p5 <| .slot rfl (Le.of_eq (by simp)) <| .all
    ·rintro k hkl
     refine .g <| .r <| .x (.b blss) ?_; refine .sq <| .g <| .cond rfl (fun c32 => ?_) (fun c32 => ?_)
     ·have hk : k < l.length := by simpa using c32
      have hxk := hx _ (nth_mem (l := l) (n := (k : Int)) (by omega) (by omega))
      unfold inB at hxk
      have hvl := vn_len (l := l) (d := d) (k := k)
      refine .p <| .g <| .g <| .k <| .g <| .r <| .m ?_; refine .x (.i es22) ?_; refine .x (.l1 vs3) ?_; refine .a ?_; refine .a ?_; refine .sq <| PC.start [] ?_; refine .x (.f fo85_0) ?_; refine .x (.l vs22) ?_; refine .mm ?_; refine .m ?_; refine .x (OpSem.bin rfl rfl rfl (bquoT (by omega) (by omega) (by omega))) ?_; refine .d0 mixed ?_; refine .x (OpSem.idxo rfl rfl rfl rfl es22 (by omega) (by simp; omega)) ?_; refine .storeq rfl rfl rfl rfl rfl rfl rfl vs3 (rows_get (by omega) (by omega)) (by simp) ?_; refine .n <| .n <| .y <| .x .ad ?_; refine .m ?_; refine .n <| .again (k + 1) (by omega) ?_ (by omega); exact .p5 <| .slot rfl (Le.of_eq (by simp)) <| .mem rfl <| .memEq rfl (by rw [← vn_s hk]; exact congrArg (Mo.own 1 3) (rows_set (f := fun n => [D.v (.int .i64 n)]))) <| .mem rfl <| .nil
     ·have hk : k = l.length := by simp at c32; omega
      subst hk
      refine .u <| .u <| .u <| .b <| .g <| .g <| .freeze 24 rfl ?_; refine .r <| .x (.L vs85) ?_; refine .sb vs85 ?_; exact .sq <| .t <| .ret rfl (.cellN rfl rfl vs85 <| .nil) rfl (Le.of_eq (by rw [← vn_end]; rfl))
   refine .share 1 [Tt, Tt, Tt, Tt, Tt, Tt, Tt, Tt, Ff] [(0, .d (ints l)), (1, I (d)), (4, .r 4 0), (5, I (vgF l d)), (8, .r 8 0), (28, .g [.o 24, I (d.tdiv (vgF l d))])] [(4, .box [.d (.v (.slice none 0 0)), I (0)]), (8, .box [.d (.v (.slice none 0 0)), I (0)]), (24, .own 1 3 ((vnS l d 0).map fun n => [D.v (.int .i64 n)]))] ?_ (fun h_41 => ?_)
   ·refine .st [8] ⟨?_, trivial⟩
    ·refine .v _ ?_; refine .sb vs85 ?_; exact .j h_42
   refine .share 2 [Tt, Tt, Tt, Tt, Tt, Tt, Tt, Ff, Ff] [(0, .d (ints l)), (1, I (d)), (4, .r 4 0), (5, I (vgF l d)), (28, .g [.o 24, I (d.tdiv (vgF l d))])] [(4, .box [.d (.v (.slice none 0 0)), I (0)]), (24, .own 1 3 ((vnS l d 0).map fun n => [D.v (.int .i64 n)]))] ?_ (fun h_39 => ?_)
   ·refine .st [7] ⟨?_, trivial⟩
    ·refine .v _ ?_; refine .al 8 zc85 ?_; exact .j h_41
   refine .share 2 [Tt, Tt, Tt, Tt, Tt, Tt, Ff, Tt, Ff] [(0, .d (ints l)), (1, I (d)), (4, .r 4 0), (5, I (vgF l d)), (8, .r 8 0), (24, .o 24), (27, I (d.tdiv (vgF l d)))] [(4, .box [.d (.v (.slice none 0 0)), I (0)]), (8, .box [.d (.v (.slice none 0 0)), I (0)]), (24, .own 1 3 ((vnS l d 0).map fun n => [D.v (.int .i64 n)]))] ?_ (fun h_40 => ?_)
   ·exact .st [6] ⟨.x rfl (.bd pl85 zc85) h_41, trivial⟩
   refine .share 3 [Tt, Tt, Tt, Tt, Tt, Tt, Ff, Ff, Ff] [(0, .d (ints l)), (1, I (d)), (4, .r 4 0), (5, I (vgF l d)), (24, .o 24), (27, I (d.tdiv (vgF l d)))] [(4, .box [.d (.v (.slice none 0 0)), I (0)]), (24, .own 1 3 ((vnS l d 0).map fun n => [D.v (.int .i64 n)]))] ?_ (fun h_36 => ?_)
   ·refine .st [6, 7] ⟨?_, ?_, trivial⟩
    ·exact .x rfl (.bd pl85 zc85) h_39
    ·refine .v _ ?_; refine .al 8 zc85 ?_; exact .j h_40
   refine .share 3 [Tt, Tt, Tt, Tt, Tt, Ff, Ff, Tt, Ff] [(0, .d (ints l)), (1, I (d)), (4, .r 4 0), (5, I (vgF l d)), (8, .r 8 0), (24, .o 24), (25, I (d)), (26, I (vgF l d))] [(4, .box [.d (.v (.slice none 0 0)), I (0)]), (8, .box [.d (.v (.slice none 0 0)), I (0)]), (24, .own 1 3 ((vnS l d 0).map fun n => [D.v (.int .i64 n)]))] ?_ (fun h_37 => ?_)
   ·exact .st [5] ⟨.x rfl (OpSem.bin rfl rfl rfl (bquoT (by omega) (by omega) (by omega))) h_40, trivial⟩
   refine .share 3 [Tt, Tt, Ff, Tt, Tt, Tt, Ff, Tt, Ff] [(0, .d (ints l)), (1, I (d)), (4, .r 4 0), (5, I (vgF l d)), (8, .r 8 0), (23, I (l.length)), (27, I (d.tdiv (vgF l d)))] [(4, .box [.d (.v (.slice none 0 0)), I (0)]), (8, .box [.d (.v (.slice none 0 0)), I (0)])] ?_ (fun h_38 => ?_)
   ·refine .st [2] ⟨?_, trivial⟩
    ·refine .v _ ?_; refine .mk 24 es22 ze22 bye22 ?_; exact TrL.join h_40 rfl (.p5 <| .p2 <| .mem rfl <| .mem rfl <| .memEq rfl (by rw [vn_0, el22]; first | (simp; done) | (simp; rfl)) <| .nil)
   refine .share 4 [Tt, Tt, Tt, Tt, Tt, Ff, Ff, Ff, Ff] [(0, .d (ints l)), (1, I (d)), (4, .r 4 0), (5, I (vgF l d)), (24, .o 24), (25, I (d)), (26, I (vgF l d))] [(4, .box [.d (.v (.slice none 0 0)), I (0)]), (24, .own 1 3 ((vnS l d 0).map fun n => [D.v (.int .i64 n)]))] ?_ (fun h_30 => ?_)
   ·refine .st [5, 7] ⟨?_, ?_, trivial⟩
    ·exact .x rfl (OpSem.bin rfl rfl rfl (bquoT (by omega) (by omega) (by omega))) h_36
    ·refine .v _ ?_; refine .al 8 zc85 ?_; exact .j h_37
   refine .share 4 [Tt, Tt, Tt, Tt, Ff, Ff, Ff, Tt, Ff] [(0, .d (ints l)), (1, I (d)), (4, .r 4 0), (5, I (vgF l d)), (8, .r 8 0), (24, .o 24), (25, I (d))] [(4, .box [.d (.v (.slice none 0 0)), I (0)]), (8, .box [.d (.v (.slice none 0 0)), I (0)]), (24, .own 1 3 ((vnS l d 0).map fun n => [D.v (.int .i64 n)]))] ?_ (fun h_31 => ?_)
   ·exact .st [4] ⟨.m h_37, trivial⟩
   refine .share 4 [Tt, Tt, Tt, Ff, Tt, Ff, Ff, Tt, Ff] [(0, .d (ints l)), (1, I (d)), (4, .r 4 0), (5, I (vgF l d)), (8, .r 8 0), (24, .o 24), (26, I (vgF l d))] [(4, .box [.d (.v (.slice none 0 0)), I (0)]), (8, .box [.d (.v (.slice none 0 0)), I (0)]), (24, .own 1 3 ((vnS l d 0).map fun n => [D.v (.int .i64 n)]))] ?_ (fun h_32 => ?_)
   ·exact .st [3] ⟨.m h_37, trivial⟩
   refine .share 4 [Tt, Tt, Ff, Tt, Tt, Tt, Ff, Ff, Ff] [(0, .d (ints l)), (1, I (d)), (4, .r 4 0), (5, I (vgF l d)), (23, I (l.length)), (27, I (d.tdiv (vgF l d)))] [(4, .box [.d (.v (.slice none 0 0)), I (0)])] ?_ (fun h_33 => ?_)
   ·refine .st [2, 7] ⟨?_, ?_, trivial⟩
    ·refine .v _ ?_; refine .mk 24 es22 ze22 bye22 ?_; exact TrL.join h_36 rfl (.p5 <| .sl <| .mem rfl <| .memEq rfl (by rw [vn_0, el22]; first | (simp; done) | (simp; rfl)) <| .nil)
    ·refine .v _ ?_; refine .al 8 zc85 ?_; exact .j h_38
   refine .share 4 [Tt, Tt, Ff, Tt, Tt, Ff, Ff, Tt, Ff] [(0, .d (ints l)), (1, I (d)), (4, .r 4 0), (5, I (vgF l d)), (8, .r 8 0), (23, I (l.length)), (25, I (d)), (26, I (vgF l d))] [(4, .box [.d (.v (.slice none 0 0)), I (0)]), (8, .box [.d (.v (.slice none 0 0)), I (0)])] ?_ (fun h_34 => ?_)
   ·refine .st [2, 5] ⟨?_, ?_, trivial⟩
    ·refine .v _ ?_; refine .mk 24 es22 ze22 bye22 ?_; exact TrL.join h_37 rfl (.p5 <| .p3 <| .mem rfl <| .mem rfl <| .memEq rfl (by rw [vn_0, el22]; first | (simp; done) | (simp; rfl)) <| .nil)
    ·exact .x rfl (OpSem.bin rfl rfl rfl (bquoT (by omega) (by omega) (by omega))) h_38
   refine .share 4 [Tt, Ff, Ff, Tt, Tt, Tt, Ff, Tt, Ff] [(0, .d (ints l)), (1, I (d)), (4, .r 4 0), (5, I (vgF l d)), (8, .r 8 0), (22, .d (ints l)), (27, I (d.tdiv (vgF l d)))] [(4, .box [.d (.v (.slice none 0 0)), I (0)]), (8, .box [.d (.v (.slice none 0 0)), I (0)])] ?_ (fun h_35 => ?_)
   ·exact .st [1] ⟨.x rfl (.n es22) h_38, trivial⟩
   refine .share 5 [Tt, Tt, Tt, Tt, Ff, Ff, Ff, Ff, Ff] [(0, .d (ints l)), (1, I (d)), (4, .r 4 0), (5, I (vgF l d)), (24, .o 24), (25, I (d))] [(4, .box [.d (.v (.slice none 0 0)), I (0)]), (24, .own 1 3 ((vnS l d 0).map fun n => [D.v (.int .i64 n)]))] ?_ (fun h_21 => ?_)
   ·refine .st [4, 7] ⟨?_, ?_, trivial⟩
    ·exact .m h_30
    ·refine .v _ ?_; refine .al 8 zc85 ?_; exact .j h_31
   refine .share 5 [Tt, Tt, Tt, Ff, Tt, Ff, Ff, Ff, Ff] [(0, .d (ints l)), (1, I (d)), (4, .r 4 0), (5, I (vgF l d)), (24, .o 24), (26, I (vgF l d))] [(4, .box [.d (.v (.slice none 0 0)), I (0)]), (24, .own 1 3 ((vnS l d 0).map fun n => [D.v (.int .i64 n)]))] ?_ (fun h_22 => ?_)
   ·refine .st [3, 7] ⟨?_, ?_, trivial⟩
    ·exact .m h_30
    ·refine .v _ ?_; refine .al 8 zc85 ?_; exact .j h_32
   refine .share 5 [Tt, Tt, Tt, Ff, Ff, Ff, Ff, Tt, Ff] [(0, .d (ints l)), (1, I (d)), (4, .r 4 0), (5, I (vgF l d)), (8, .r 8 0), (24, .o 24)] [(4, .box [.d (.v (.slice none 0 0)), I (0)]), (8, .box [.d (.v (.slice none 0 0)), I (0)]), (24, .own 1 3 ((vnS l d 0).map fun n => [D.v (.int .i64 n)]))] ?_ (fun h_23 => ?_)
   ·exact .st [3, 4] ⟨.m h_31, .m h_32, trivial⟩
   refine .share 5 [Tt, Tt, Ff, Tt, Tt, Ff, Ff, Ff, Ff] [(0, .d (ints l)), (1, I (d)), (4, .r 4 0), (5, I (vgF l d)), (23, I (l.length)), (25, I (d)), (26, I (vgF l d))] [(4, .box [.d (.v (.slice none 0 0)), I (0)])] ?_ (fun h_24 => ?_)
   ·refine .st [2, 5, 7] ⟨?_, ?_, ?_, trivial⟩
    ·refine .v _ ?_; refine .mk 24 es22 ze22 bye22 ?_; exact TrL.join h_30 rfl (.p5 <| .p2 <| .mem rfl <| .memEq rfl (by rw [vn_0, el22]; first | (simp; done) | (simp; rfl)) <| .nil)
    ·exact .x rfl (OpSem.bin rfl rfl rfl (bquoT (by omega) (by omega) (by omega))) h_33
    ·refine .v _ ?_; refine .al 8 zc85 ?_; exact .j h_34
   refine .share 5 [Tt, Tt, Ff, Tt, Ff, Ff, Ff, Tt, Ff] [(0, .d (ints l)), (1, I (d)), (4, .r 4 0), (5, I (vgF l d)), (8, .r 8 0), (23, I (l.length)), (25, I (d))] [(4, .box [.d (.v (.slice none 0 0)), I (0)]), (8, .box [.d (.v (.slice none 0 0)), I (0)])] ?_ (fun h_25 => ?_)
   ·refine .st [2, 4] ⟨?_, ?_, trivial⟩
    ·refine .v _ ?_; refine .mk 24 es22 ze22 bye22 ?_; exact TrL.join h_31 rfl (.p5 <| .p2 <| .mem rfl <| .mem rfl <| .memEq rfl (by rw [vn_0, el22]; first | (simp; done) | (simp; rfl)) <| .nil)
    ·exact .m h_34
   refine .share 5 [Tt, Tt, Ff, Ff, Tt, Ff, Ff, Tt, Ff] [(0, .d (ints l)), (1, I (d)), (4, .r 4 0), (5, I (vgF l d)), (8, .r 8 0), (23, I (l.length)), (26, I (vgF l d))] [(4, .box [.d (.v (.slice none 0 0)), I (0)]), (8, .box [.d (.v (.slice none 0 0)), I (0)])] ?_ (fun h_26 => ?_)
   ·refine .st [2, 3] ⟨?_, ?_, trivial⟩
    ·refine .v _ ?_; refine .mk 24 es22 ze22 bye22 ?_; exact TrL.join h_32 rfl (.p5 <| .p2 <| .mem rfl <| .mem rfl <| .memEq rfl (by rw [vn_0, el22]; first | (simp; done) | (simp; rfl)) <| .nil)
    ·exact .m h_34
   refine .share 5 [Tt, Ff, Ff, Tt, Tt, Tt, Ff, Ff, Ff] [(0, .d (ints l)), (1, I (d)), (4, .r 4 0), (5, I (vgF l d)), (22, .d (ints l)), (27, I (d.tdiv (vgF l d)))] [(4, .box [.d (.v (.slice none 0 0)), I (0)])] ?_ (fun h_27 => ?_)
   ·refine .st [1, 7] ⟨?_, ?_, trivial⟩
    ·exact .x rfl (.n es22) h_33
    ·refine .v _ ?_; refine .al 8 zc85 ?_; exact .j h_35
   refine .share 5 [Tt, Ff, Ff, Tt, Tt, Ff, Ff, Tt, Ff] [(0, .d (ints l)), (1, I (d)), (4, .r 4 0), (5, I (vgF l d)), (8, .r 8 0), (22, .d (ints l)), (25, I (d)), (26, I (vgF l d))] [(4, .box [.d (.v (.slice none 0 0)), I (0)]), (8, .box [.d (.v (.slice none 0 0)), I (0)])] ?_ (fun h_28 => ?_)
   ·exact .st [1, 5] ⟨.x rfl (.n es22) h_34, .x rfl (OpSem.bin rfl rfl rfl (bquoT (by omega) (by omega) (by omega))) h_35, trivial⟩
   refine .share 5 [Ff, Ff, Ff, Tt, Tt, Tt, Ff, Tt, Ff] [(0, .d (ints l)), (1, I (d)), (4, .r 4 0), (5, I (vgF l d)), (8, .r 8 0), (27, I (d.tdiv (vgF l d)))] [(4, .box [.d (.v (.slice none 0 0)), I (0)]), (8, .box [.d (.v (.slice none 0 0)), I (0)])] ?_ (fun h_29 => ?_)
   ·exact .st [0] ⟨.m h_35, trivial⟩
   refine .share 6 [Tt, Tt, Tt, Ff, Ff, Ff, Ff, Ff, Ff] [(0, .d (ints l)), (1, I (d)), (4, .r 4 0), (5, I (vgF l d)), (24, .o 24)] [(4, .box [.d (.v (.slice none 0 0)), I (0)]), (24, .own 1 3 ((vnS l d 0).map fun n => [D.v (.int .i64 n)]))] ?_ (fun h_12 => ?_)
   ·refine .st [3, 4, 7] ⟨?_, ?_, ?_, trivial⟩
    ·exact .m h_21
    ·exact .m h_22
    ·refine .v _ ?_; refine .al 8 zc85 ?_; exact .j h_23
   refine .share 6 [Tt, Tt, Ff, Tt, Ff, Ff, Ff, Ff, Ff] [(0, .d (ints l)), (1, I (d)), (4, .r 4 0), (5, I (vgF l d)), (23, I (l.length)), (25, I (d))] [(4, .box [.d (.v (.slice none 0 0)), I (0)])] ?_ (fun h_13 => ?_)
   ·refine .st [2, 4, 7] ⟨?_, ?_, ?_, trivial⟩
    ·refine .v _ ?_; refine .mk 24 es22 ze22 bye22 ?_; exact TrL.join h_21 rfl (.p5 <| .sl <| .mem rfl <| .memEq rfl (by rw [vn_0, el22]; first | (simp; done) | (simp; rfl)) <| .nil)
    ·exact .m h_24
    ·refine .v _ ?_; refine .al 8 zc85 ?_; exact .j h_25
   refine .share 6 [Tt, Tt, Ff, Ff, Tt, Ff, Ff, Ff, Ff] [(0, .d (ints l)), (1, I (d)), (4, .r 4 0), (5, I (vgF l d)), (23, I (l.length)), (26, I (vgF l d))] [(4, .box [.d (.v (.slice none 0 0)), I (0)])] ?_ (fun h_14 => ?_)
   ·refine .st [2, 3, 7] ⟨?_, ?_, ?_, trivial⟩
    ·refine .v _ ?_; refine .mk 24 es22 ze22 bye22 ?_; exact TrL.join h_22 rfl (.p5 <| .sl <| .mem rfl <| .memEq rfl (by rw [vn_0, el22]; first | (simp; done) | (simp; rfl)) <| .nil)
    ·exact .m h_24
    ·refine .v _ ?_; refine .al 8 zc85 ?_; exact .j h_26
   refine .share 6 [Tt, Tt, Ff, Ff, Ff, Ff, Ff, Tt, Ff] [(0, .d (ints l)), (1, I (d)), (4, .r 4 0), (5, I (vgF l d)), (8, .r 8 0), (23, I (l.length))] [(4, .box [.d (.v (.slice none 0 0)), I (0)]), (8, .box [.d (.v (.slice none 0 0)), I (0)])] ?_ (fun h_15 => ?_)
   ·refine .st [2, 3, 4] ⟨?_, ?_, ?_, trivial⟩
    ·refine .v _ ?_; refine .mk 24 es22 ze22 bye22 ?_; exact TrL.join h_23 rfl (.p5 <| .sl <| .mem rfl <| .mem rfl <| .memEq rfl (by rw [vn_0, el22]; first | (simp; done) | (simp; rfl)) <| .nil)
    ·exact .m h_25
    ·exact .m h_26
   refine .share 6 [Tt, Ff, Ff, Tt, Tt, Ff, Ff, Ff, Ff] [(0, .d (ints l)), (1, I (d)), (4, .r 4 0), (5, I (vgF l d)), (22, .d (ints l)), (25, I (d)), (26, I (vgF l d))] [(4, .box [.d (.v (.slice none 0 0)), I (0)])] ?_ (fun h_16 => ?_)
   ·refine .st [1, 5, 7] ⟨?_, ?_, ?_, trivial⟩
    ·exact .x rfl (.n es22) h_24
    ·exact .x rfl (OpSem.bin rfl rfl rfl (bquoT (by omega) (by omega) (by omega))) h_27
    ·refine .v _ ?_; refine .al 8 zc85 ?_; exact .j h_28
   refine .share 6 [Tt, Ff, Ff, Tt, Ff, Ff, Ff, Tt, Ff] [(0, .d (ints l)), (1, I (d)), (4, .r 4 0), (5, I (vgF l d)), (8, .r 8 0), (22, .d (ints l)), (25, I (d))] [(4, .box [.d (.v (.slice none 0 0)), I (0)]), (8, .box [.d (.v (.slice none 0 0)), I (0)])] ?_ (fun h_17 => ?_)
   ·exact .st [1, 4] ⟨.x rfl (.n es22) h_25, .m h_28, trivial⟩
   refine .share 6 [Tt, Ff, Ff, Ff, Tt, Ff, Ff, Tt, Ff] [(0, .d (ints l)), (1, I (d)), (4, .r 4 0), (5, I (vgF l d)), (8, .r 8 0), (22, .d (ints l)), (26, I (vgF l d))] [(4, .box [.d (.v (.slice none 0 0)), I (0)]), (8, .box [.d (.v (.slice none 0 0)), I (0)])] ?_ (fun h_18 => ?_)
   ·exact .st [1, 3] ⟨.x rfl (.n es22) h_26, .m h_28, trivial⟩
   refine .share 6 [Ff, Ff, Ff, Tt, Tt, Tt, Ff, Ff, Ff] [(0, .d (ints l)), (1, I (d)), (4, .r 4 0), (5, I (vgF l d)), (27, I (d.tdiv (vgF l d)))] [(4, .box [.d (.v (.slice none 0 0)), I (0)])] ?_ (fun h_19 => ?_)
   ·refine .st [0, 7] ⟨?_, ?_, trivial⟩
    ·exact .m h_27
    ·refine .v _ ?_; refine .al 8 zc85 ?_; exact .j h_29
   refine .share 6 [Ff, Ff, Ff, Tt, Tt, Ff, Ff, Tt, Ff] [(0, .d (ints l)), (1, I (d)), (4, .r 4 0), (5, I (vgF l d)), (8, .r 8 0), (25, I (d)), (26, I (vgF l d))] [(4, .box [.d (.v (.slice none 0 0)), I (0)]), (8, .box [.d (.v (.slice none 0 0)), I (0)])] ?_ (fun h_20 => ?_)
   ·exact .st [0, 5] ⟨.m h_28, .x rfl (OpSem.bin rfl rfl rfl (bquoT (by omega) (by omega) (by omega))) h_29, trivial⟩
   refine .share 7 [Tt, Tt, Ff, Ff, Ff, Ff, Ff, Ff, Ff] [(0, .d (ints l)), (1, I (d)), (4, .r 4 0), (5, I (vgF l d)), (23, I (l.length))] [(4, .box [.d (.v (.slice none 0 0)), I (0)])] ?_ (fun h_5 => ?_)
   ·refine .st [2, 3, 4, 7] ⟨?_, ?_, ?_, ?_, trivial⟩
    ·refine .v _ ?_; refine .mk 24 es22 ze22 bye22 ?_; exact TrL.join h_12 rfl (.p5 <| .mem rfl <| .memEq rfl (by rw [vn_0, el22]; first | (simp; done) | (simp; rfl)) <| .nil)
    ·exact .m h_13
    ·exact .m h_14
    ·refine .v _ ?_; refine .al 8 zc85 ?_; exact .j h_15
   refine .share 7 [Tt, Ff, Ff, Tt, Ff, Ff, Ff, Ff, Ff] [(0, .d (ints l)), (1, I (d)), (4, .r 4 0), (5, I (vgF l d)), (22, .d (ints l)), (25, I (d))] [(4, .box [.d (.v (.slice none 0 0)), I (0)])] ?_ (fun h_6 => ?_)
   ·refine .st [1, 4, 7] ⟨?_, ?_, ?_, trivial⟩
    ·exact .x rfl (.n es22) h_13
    ·exact .m h_16
    ·refine .v _ ?_; refine .al 8 zc85 ?_; exact .j h_17
   refine .share 7 [Tt, Ff, Ff, Ff, Tt, Ff, Ff, Ff, Ff] [(0, .d (ints l)), (1, I (d)), (4, .r 4 0), (5, I (vgF l d)), (22, .d (ints l)), (26, I (vgF l d))] [(4, .box [.d (.v (.slice none 0 0)), I (0)])] ?_ (fun h_7 => ?_)
   ·refine .st [1, 3, 7] ⟨?_, ?_, ?_, trivial⟩
    ·exact .x rfl (.n es22) h_14
    ·exact .m h_16
    ·refine .v _ ?_; refine .al 8 zc85 ?_; exact .j h_18
   refine .share 7 [Tt, Ff, Ff, Ff, Ff, Ff, Ff, Tt, Ff] [(0, .d (ints l)), (1, I (d)), (4, .r 4 0), (5, I (vgF l d)), (8, .r 8 0), (22, .d (ints l))] [(4, .box [.d (.v (.slice none 0 0)), I (0)]), (8, .box [.d (.v (.slice none 0 0)), I (0)])] ?_ (fun h_8 => ?_)
   ·exact .st [1, 3, 4] ⟨.x rfl (.n es22) h_15, .m h_17, .m h_18, trivial⟩
   refine .share 7 [Ff, Ff, Ff, Tt, Tt, Ff, Ff, Ff, Ff] [(0, .d (ints l)), (1, I (d)), (4, .r 4 0), (5, I (vgF l d)), (25, I (d)), (26, I (vgF l d))] [(4, .box [.d (.v (.slice none 0 0)), I (0)])] ?_ (fun h_9 => ?_)
   ·refine .st [0, 5, 7] ⟨?_, ?_, ?_, trivial⟩
    ·exact .m h_16
    ·exact .x rfl (OpSem.bin rfl rfl rfl (bquoT (by omega) (by omega) (by omega))) h_19
    ·refine .v _ ?_; refine .al 8 zc85 ?_; exact .j h_20
   refine .share 7 [Ff, Ff, Ff, Tt, Ff, Ff, Ff, Tt, Ff] [(0, .d (ints l)), (1, I (d)), (4, .r 4 0), (5, I (vgF l d)), (8, .r 8 0), (25, I (d))] [(4, .box [.d (.v (.slice none 0 0)), I (0)]), (8, .box [.d (.v (.slice none 0 0)), I (0)])] ?_ (fun h_10 => ?_)
   ·exact .st [0, 4] ⟨.m h_17, .m h_20, trivial⟩
   refine .share 7 [Ff, Ff, Ff, Ff, Tt, Ff, Ff, Tt, Ff] [(0, .d (ints l)), (1, I (d)), (4, .r 4 0), (5, I (vgF l d)), (8, .r 8 0), (26, I (vgF l d))] [(4, .box [.d (.v (.slice none 0 0)), I (0)]), (8, .box [.d (.v (.slice none 0 0)), I (0)])] ?_ (fun h_11 => ?_)
   ·exact .st [0, 3] ⟨.m h_18, .m h_20, trivial⟩
   refine .share 8 [Tt, Ff, Ff, Ff, Ff, Ff, Ff, Ff, Ff] [(0, .d (ints l)), (1, I (d)), (4, .r 4 0), (5, I (vgF l d)), (22, .d (ints l))] [(4, .box [.d (.v (.slice none 0 0)), I (0)])] ?_ (fun h_1 => ?_)
   ·refine .st [1, 3, 4, 7] ⟨?_, ?_, ?_, ?_, trivial⟩
    ·exact .x rfl (.n es22) h_5
    ·exact .m h_6
    ·exact .m h_7
    ·refine .v _ ?_; refine .al 8 zc85 ?_; exact .j h_8
   refine .share 8 [Ff, Ff, Ff, Tt, Ff, Ff, Ff, Ff, Ff] [(0, .d (ints l)), (1, I (d)), (4, .r 4 0), (5, I (vgF l d)), (25, I (d))] [(4, .box [.d (.v (.slice none 0 0)), I (0)])] ?_ (fun h_2 => ?_)
   ·refine .st [0, 4, 7] ⟨?_, ?_, ?_, trivial⟩
    ·exact .m h_6
    ·exact .m h_9
    ·refine .v _ ?_; refine .al 8 zc85 ?_; exact .j h_10
   refine .share 8 [Ff, Ff, Ff, Ff, Tt, Ff, Ff, Ff, Ff] [(0, .d (ints l)), (1, I (d)), (4, .r 4 0), (5, I (vgF l d)), (26, I (vgF l d))] [(4, .box [.d (.v (.slice none 0 0)), I (0)])] ?_ (fun h_3 => ?_)
   ·refine .st [0, 3, 7] ⟨?_, ?_, ?_, trivial⟩
    ·exact .m h_7
    ·exact .m h_9
    ·refine .v _ ?_; refine .al 8 zc85 ?_; exact .j h_11
   refine .share 8 [Ff, Ff, Ff, Ff, Ff, Ff, Ff, Tt, Ff] [(0, .d (ints l)), (1, I (d)), (4, .r 4 0), (5, I (vgF l d)), (8, .r 8 0)] [(4, .box [.d (.v (.slice none 0 0)), I (0)]), (8, .box [.d (.v (.slice none 0 0)), I (0)])] ?_ (fun h_4 => ?_)
   ·exact .st [0, 3, 4] ⟨.m h_8, .m h_10, .m h_11, trivial⟩
   refine .st [0, 3, 4, 7] ⟨?_, ?_, ?_, ?_, trivial⟩
   ·exact .m h_1
   ·exact .m h_2
   ·exact .m h_3
   ·refine .v _ ?_; refine .al 8 zc85 ?_; exact .j h_4
theorem linear_tableau_point_does (t : Tb) (n : Nat) (col : Int) (hn : n ≤ 1000000) (hbl : t.bs.length ≤ 1000000) (h2 : t.bs.length ≤ t.rs.length) (hb : ∀ k : Nat, k < t.bs.length → 0 ≤ nth t.bs k ∧ 0 ≤ col ∧ col < (nth t.rs k).length ∧ inB (cel t k col)) : DoesO Tryz.prog 76 [.p [rows t.rs, ints t.bs, .v (.int .i64 t.dn)], I ((n : Int)), I (col), I (1)] 1 3 (((ptF t n col 1).map fun n => [D.v (.int .i64 n)])) := by
 refine DoesO.of_body Tryz.func76 rfl rfl (by simp) Tryz.call76 (fun w0 O0 => ?_); refine .g <| .r <| .a ?_; refine .z <| .m ?_; refine .mk 13 es22 ze22 bye22 ?_; refine .a ?_; refine .sq <| .g <| .g <| .r <| .m ?_; refine .x (OpSem.nilp rfl rfl) ?_; refine .x (OpSem.fieldp rfl rfl fo122_1) ?_; refine .x (.l1 vs22) ?_; refine .x (.n es22) ?_; refine .m ?_; refine .sq <| .k <| .loop (X := Nat) (fun k => k ≤ t.bs.length) (fun k => [(0, .p [rows t.rs, ints t.bs, .v (.int .i64 t.dn)]), (1, I ((n : Int))), (2, I (col)), (3, I (1)), (9, .o 13), (17, .d (ints t.bs)), (18, I (t.bs.length)), (19, I (k))]) (fun k => [(13, .own 1 3 ((ptTo t n col 1 k).map fun n => [D.v (.int .i64 n)]))]) (fun k => t.bs.length - k) 0 (by omega) ?_ ?_
 ·exact .p5 <| .p2 <| .slot rfl (Le.of_eq (by simp)) <| .memEq rfl (by rw [el22]; first | (simp [ptTo]; done) | (simp [ptTo]; rfl)) <| .nil
 ·rintro k hkl
  refine .g <| .r <| .x (.b blss) ?_; refine .sq <| .g <| .cond rfl (fun c20 => ?_) (fun c20 => ?_)
  ·have hk : k < t.bs.length := by simpa using c20
   have hbk := hb k hk
   have hpl := pt_len (t := t) (n := n) (col := col) (sign := 1) (k := k)
   refine .p <| .g <| .g <| .k <| .g <| .r <| .m ?_; refine .x (.i es22) ?_; refine .x (.l1 vs3) ?_; refine .a ?_; refine .a ?_; refine .z <| .mm ?_; refine .x (.b blss) ?_; refine .sq <| .cond rfl (fun c26 => ?_) (fun c26 => ?_)
   ·have hp : nth t.bs k < n := by simpa using c26
    refine .r <| .mm ?_; refine .mm ?_; refine .x (OpSem.nilp rfl rfl) ?_; refine .x (OpSem.fieldp rfl rfl fo122_0) ?_; refine .x (.l1 vs58) ?_; refine .m ?_; refine .x (.i es58) ?_; refine .x (.l1 vs22) ?_; refine .m ?_; refine .x (.i es22) ?_; refine .x (.l1 vs3) ?_; refine .x (OpSem.bin rfl rfl rfl (bmul (by unfold inB cel at hbk; omega) (by unfold inB cel at hbk; omega))) ?_; refine .x (OpSem.idxo rfl rfl rfl rfl es22 (by omega) (by simp; omega)) ?_; refine .storeq rfl rfl rfl rfl rfl rfl rfl vs3 (rows_get (by omega) (by omega)) (by simp) ?_; refine .n <| .n <| .y <| .x .ad ?_; refine .m ?_; refine .n <| .again (k + 1) (by omega) ?_ (by omega); exact .p5 <| .p2 <| .slot rfl (Le.of_eq (by simp)) <| .memEq rfl (by rw [pt_t hp]; exact congrArg (Mo.own 1 3) (rows_set (f := fun n => [D.v (.int .i64 n)]))) <| .nil
   ·have hp : ¬ nth t.bs k < n := by simpa using c26
    refine .p <| .n <| .y <| .x .ad ?_; refine .m ?_; refine .n <| .again (k + 1) (by omega) ?_ (by omega); exact .p5 <| .p2 <| .slot rfl (Le.of_eq (by simp)) <| .memEq rfl (by rw [pt_f hp]) <| .nil
  ·have hk : k = t.bs.length := by simp at c20; omega
   subst hk
   refine .u <| .u <| .u <| .b <| .z <| .m ?_; refine .a ?_; exact .sq <| .t <| .retO2 rfl rfl rfl (by simp) (rfl)
theorem fraction_Validate_does (x : Int × Int) (h0 : -1000000000 ≤ x.1) (h1 : x.1 ≤ 1000000000) (h2 : 0 < x.2) (h3 : x.2 ≤ 1000000000) (hg : Int.gcd x.1 x.2 = 1) : Does Tryz.prog false 130 [flt x] (flt (0, 0)) := by
 refine Does.of_body Tryz.func130 rfl rfl (by simp) Tryz.call130 (fun w0 O0 => ?_); refine .g <| .r <| .bx 1 ?_; refine .al 2 zc28 ?_; refine .sq <| .g <| .k <| .g <| .r <| .x (.f fo45_0) ?_; refine .x (.l vs3) ?_; refine .x (.b blss) ?_; refine .m ?_; refine .split (n := 7) rfl (fun c7 => ?_) (fun c7 => ?_)
 ·exfalso; simp at c7; omega
 ·refine .ht c7 ?_; refine .x (.f fo45_0) ?_; refine .ht c7 ?_; refine .x (.l vs3) ?_; refine .ht c7 ?_; refine .x (.b bgtr) ?_; refine .x (OpSem.pickF rfl rfl c7 rfl) ?_; refine .m ?_; refine .split (n := 12) rfl (fun c12 => ?_) (fun c12 => ?_)
  ·exfalso; simp at c12; omega
  ·refine .ht c12 ?_; refine .x (.f fo45_1) ?_; refine .ht c12 ?_; refine .x (.l vs3) ?_; refine .ht c12 ?_; refine .x (.b blss) ?_; refine .x (OpSem.pickF rfl rfl c12 rfl) ?_; refine .m ?_; refine .split (n := 17) rfl (fun c17 => ?_) (fun c17 => ?_)
   ·exfalso; simp at c17; omega
   ·refine .ht c17 ?_; refine .x (.f fo45_1) ?_; refine .ht c17 ?_; refine .x (.l vs3) ?_; refine .ht c17 ?_; refine .x (.b bgtr) ?_; refine .x (OpSem.pickF rfl rfl c17 rfl) ?_; refine .a ?_; refine .sq <| .cond rfl (fun c3 => ?_) (fun c3 => ?_)
    ·exfalso; simp at c3; omega
    ·refine .g <| .r <| .x (.f fo45_0) ?_; refine .x (.l vs3) ?_; refine .x (.f fo45_1) ?_; refine .x (.l vs3) ?_; refine .x (OpSem.call0 (fraction_gcd_does x.1 x.2 (by omega) (by omega)) rfl rfl rfl rfl (Les.refl _)) ?_; refine .x (.b bneq) ?_; refine .a ?_; refine .sq <| .cond rfl (fun c23 => ?_) (fun c23 => ?_)
     ·exfalso; simp [hg] at c23
     ·refine .p <| .n <| .z <| .x (.bd pl28 zc28) ?_; refine .sb vs28 ?_; exact .sq <| .t <| .ret rfl (.cellN rfl rfl vs28 <| .nil) rfl (.refl _)
theorem fraction_reduce_does (n d : Int) (h0 : -1000000000 ≤ n) (h1 : n ≤ 1000000000) (h2 : 0 < d) (h3 : d ≤ 1000000000) : Does Tryz.prog false 114 [I (n), I (d)] (.t [flt (lowF n d), flt (0, 0)]) := by
 obtain ⟨z0, z1, z2, z3, z4, z5, z6⟩ := low_ok h0 h1 h2 h3
 refine Does.of_body Tryz.func114 rfl rfl (by simp) Tryz.call114 (fun w0 O0 => ?_); refine .g <| .r <| .al 4 zc45 ?_; refine .al 5 zc28 ?_; refine .sq <| .g <| .g <| .r <| .m ?_; refine .x (.b blss) ?_; refine .sq <| .cond rfl (fun c9 => ?_) (fun c9 => ?_)
 ·exfalso; simp at c9; omega
 ·refine .p <| .z <| .mm ?_; refine .x (OpSem.call0 (fraction_gcd_does n d (by omega) (by omega)) rfl rfl rfl rfl (Les.refl _)) ?_; refine .a ?_; refine .sq <| .g <| PC.start [] ?_; refine .mm ?_; refine .x (OpSem.bin rfl rfl rfl (bquoT (by omega) (by omega) (by omega))) ?_; refine .mm ?_; refine .x (OpSem.bin rfl rfl rfl (bquoT (by omega) (by omega) (by omega))) ?_; refine .x (.bd pl45 zc45) ?_; refine .semM (OpSem.alloc 7 rfl zc45 rfl) rfl rfl ?_; refine .d1 7 (.box [I (0), I (0)]) mixed ?_; refine .sb vs45 ?_; refine .sq <| .g <| .g <| .r <| .x (.L vs45) ?_; refine .x (OpSem.call0 (fraction_Validate_does (lowF n d) z0 z1 z2 z3 z4) rfl rfl rfl rfl (Les.refl _)) ?_; refine .x (.bd pl28 zc28) ?_; refine .x (OpSem.neS2 rfl rfl rfl io28) ?_; refine .sq <| .cond rfl (fun c27 => ?_) (fun c27 => ?_)
  ·exfalso; simp at c27
  ·refine .p <| .z <| .x (.L vs45) ?_; refine .x (.bd pl28 zc28) ?_; refine .sb vs45 ?_; refine .sb vs28 ?_; exact .sq <| .t <| .ret rfl (.cellN rfl rfl vs45 <| .cellN rfl rfl vs28 <| .nil) rfl (.refl _)
theorem fraction_Make_does (n d : Int) (h0 : -1000000000 ≤ n) (h1 : n ≤ 1000000000) (h2 : 0 < d) (h3 : d ≤ 1000000000) : Does Tryz.prog false 77 [I (n), I (d)] (.t [flt (lowF n d), flt (0, 0)]) := by
 refine Does.of_body Tryz.func77 rfl rfl (by simp) Tryz.call77 (fun w0 O0 => ?_); refine .g <| .r <| .al 4 zc45 ?_; refine .al 5 zc28 ?_; refine .sq <| .g <| .k <| .g <| .r <| .m ?_; refine .x (.b blss) ?_; refine .m ?_; refine .split (n := 9) rfl (fun c9 => ?_) (fun c9 => ?_)
 ·exfalso; simp at c9; omega
 ·refine .ht c9 ?_; refine .m ?_; refine .ht c9 ?_; refine .x (.b bgtr) ?_; refine .x (OpSem.pickF rfl rfl c9 rfl) ?_; refine .a ?_; refine .sq <| .cond rfl (fun c6 => ?_) (fun c6 => ?_)
  ·exfalso; simp at c6; omega
  ·refine .g <| .r <| .m ?_; refine .x (.b blss) ?_; refine .m ?_; refine .split (n := 18) rfl (fun c18 => ?_) (fun c18 => ?_)
   ·exfalso; simp at c18; omega
   ·refine .ht c18 ?_; refine .m ?_; refine .ht c18 ?_; refine .x (.b bgtr) ?_; refine .x (OpSem.pickF rfl rfl c18 rfl) ?_; refine .m ?_; refine .split (n := 22) rfl (fun c22 => ?_) (fun c22 => ?_)
    ·exfalso; simp at c22; omega
    ·refine .ht c22 ?_; refine .m ?_; refine .ht c22 ?_; refine .x (.b beql) ?_; refine .x (OpSem.pickF rfl rfl c22 rfl) ?_; refine .a ?_; refine .sq <| .cond rfl (fun c15 => ?_) (fun c15 => ?_)
     ·exfalso; simp at c15; omega
     ·refine .p <| .n <| .z <| .mm ?_; refine .x (OpSem.call0 (fraction_reduce_does n d h0 h1 h2 h3) rfl rfl rfl rfl (Les.refl _)) ?_; refine .x .xt ?_; refine .x .xt ?_; refine .sb vs45 ?_; refine .sb vs28 ?_; exact .sq <| .t <| .ret rfl (.cellN rfl rfl vs45 <| .cellN rfl rfl vs28 <| .nil) rfl (.refl _)
end Go.Proofs.YthjmgcopfipabaaGreat
end
