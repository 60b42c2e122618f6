/- The engine and the walks that this claim uses, part 11. Written by prune.py out of our own texts. -/
import Derived.Test.YtlidcpmdgceboaaE10
set_option linter.unusedSimpArgs false
set_option linter.unnecessarySimpa false
set_option linter.unusedVariables false
set_option linter.unusedSectionVars false
section
/- Walks, written by gen.py out of hints. -/


namespace Go.Proofs.Ytlidcpmdgceboaa
open Go.Eng
set_option maxRecDepth 10000
set_option maxHeartbeats 1000000

theorem S3_eliminated_does (m : Mx) (h : SqP m) : Does Try.prog false 71 [.d (rows m)] (.t [.d (ints (elO m).1), I (elO m).2.1, Bo (elO m).2.2]) := by
 have hn6 := h.n6
 refine Does.of_body Try.func71 rfl rfl (by simp) Try.call71 (fun w0 O0 => ?_); refine .lenLe (n := 0) rfl (fun len0 => ?_); refine .seq ?_; refine .region ?_; refine .a ?_; refine .a ?_; refine .a ?_; refine .z ?_; refine .m ?_; refine .x (OpSem.lenL rfl rfl es37) ?_; refine .a ?_; refine .z ?_; refine .a ?_; refine .sq ?_; refine .seq ?_; refine .seq ?_; refine .pin0 200 ?_; refine .ownNil (n := 6) 6 1 22 rfl ?_; refine .region ?_; refine .a ?_; refine .sq ?_; refine .block ?_; refine .loop (X := (Nat × List Blk)) (fun q => q.1 ≤ m.length ∧ q.2.length = q.1 ∧ (q.2.map (·.1)).Nodup ∧ ∀ x, x ∈ q.2 → m.length + 1 ≤ x.2.1 ∧ x.2.1 ≤ maxLen) (fun q => [(0, .d (rows m)), (5, I (m.length)), (6, .o 6), (7, I (q.1))]) (fun q => [(6, .own 1 22 ((rhd (m.length + 1) q.2).map fun v => [D.v v])), (200, .any (pinK (rowF 3 (fun r_ => nth m (r_ : Int)) q.2)))]) (fun q => m.length - q.1) (0, []) ⟨by omega, rfl, by simp, by simp⟩ ?_ ?_
 ·exact .sl <| .sl <| .sl <| .slot rfl (Le.of_eq (by simp)) <| .memEq rfl rfl <| .memEq rfl (by rw [rowF_0]; rfl) <| .nil
 ·rintro q ⟨hq1, hq2, hq3, hq4⟩
  refine .seq ?_; refine .seq ?_; refine .region ?_; refine .m ?_; refine .m ?_; refine .x (.b blss) ?_; refine .sq ?_; refine .cond rfl (fun c20 => ?_) (fun c20 => ?_)
  ·have hk : q.1 < m.length := by simpa using c20
   have hrw := h.w q.1 hk
   have hhl : (rhd (m.length + 1) q.2).length = q.1 := by simp [rhd, hq2]
   refine .skip ?_; refine .seq ?_; refine .seq ?_; refine .block ?_; refine .region ?_; refine .m ?_; refine .m ?_; refine .m ?_; refine .x (OpSem.idxL rfl rfl rfl es37 (by omega) (by omega)) ?_; refine .x (OpSem.load1 rfl rfl vs22 rfl) ?_; refine .semM (OpSem.appendNil 28 rfl rfl rfl es22 el22 zc3 rfl (by decide) by3 (fun r hr => by obtain ⟨x, _, rfl⟩ := List.mem_map.1 hr; rfl) (by simp [maxLen]; omega) (by simp; omega)) rfl rfl (by decide) ?_; refine .memEq (h := 28) (m' := .own 1 3 ((iv (nth m q.1)).map fun v => [D.v v])) rfl (by simp [iv] <;> rfl) ?_; refine .pinOwn 200 28 (T := 3) (l := iv (nth m q.1)) rfl rfl (by decide) (fun e => by have h := congrArg List.length e; simp [iv, hrw] at h) (fun b cap tl hF hcp hcm => ?_)
   have hil : (iv (nth m q.1)).length = m.length + 1 := by simp [iv, hrw]
   refine .x (.bs es37 ze37) ?_; refine .ap es37 el37 zc22 by22 ?_; refine .a ?_; refine .nil ?_; refine .block_normal ?_; refine .y ?_; refine .m ?_; refine .x .ad ?_; refine .a ?_; refine .nil ?_; refine .again (q.1 + 1, q.2 ++ [(b, cap, tl)]) ⟨by simp only []; omega, by simp [hq2], by simp only [List.map_append]; exact nd_snoc hq3 (rowF_none hF), fun x hx => by rcases List.mem_append.1 hx with hx | hx; exact hq4 x hx; simp at hx; subst hx; simp only []; omega⟩ ?_ (by simp only []; omega)
   exact .sl <| .sl <| .sl <| .slot rfl (Le.of_eq (by simp)) <| .memEq rfl (by rw [rhd_s, List.map_append, hil]; rfl) <| .memEq rfl (by rw [pin_m (cap := cap) hq2 hF]; rfl) <| .nil
  ·have hk : q.1 = m.length := by simp at c20; omega
   have hB0 : BkP m.length q.2 := ⟨hq2.trans hk, hq3, hq4⟩
   refine .exit ?_; refine .pass_exit ?_; refine .pass_exit ?_; refine .block_same ?_; refine .z ?_; refine .a ?_; refine .sq ?_; refine .seq ?_; refine .seq ?_; refine .region ?_; refine .a ?_; refine .sq ?_; refine .block ?_; refine .loop (X := (Nat × List Blk × Mx × Int)) (fun y => y.1 ≤ m.length ∧ gaK m y.1 = some y.2.2 ∧ BkP m.length y.2.1) (fun y => [(5, I (m.length)), (6, .o 6), (8, I (y.2.2.2)), (9, I (y.1))]) (fun y => [(6, .own 1 22 ((rhd (m.length + 1) y.2.1).map fun v => [D.v v])), (200, .any (pinK (rowF 3 (fun r_ => nth y.2.2.1 (r_ : Int)) y.2.1)))]) (fun y => m.length - y.1) (0, q.2, m, 1) ⟨by simp, rfl, hB0⟩ ?_ ?_
   ·exact .sl <| .sl <| .slot rfl (Le.of_eq rfl) <| .slot rfl (Le.of_eq (by simp)) <| .memEq rfl rfl <| .memEq rfl rfl <| .nil
   ·rintro y ⟨hy1, hy2, hy3⟩
    obtain ⟨π, σ, B, hg⟩ := ga_inv h hy1 hy2
    obtain ⟨hs1, hs2⟩ := hg.small h
    refine .seq ?_; refine .seq ?_; refine .region ?_; refine .m ?_; refine .m ?_; refine .x (.b blss) ?_; refine .sq ?_; refine .cond rfl (fun c33 => ?_) (fun c33 => ?_)
    ·have hc : y.1 < m.length := by simpa using c33
     refine .skip ?_; refine .seq ?_; refine .seq ?_; refine .block ?_; refine .seq ?_; refine .region ?_; refine .m ?_; refine .a ?_; refine .sq ?_; refine .cut [(5, I (m.length)), (6, .o 6), (8, I (y.2.2.2)), (9, I (y.1)), (10, I (((atF y.2.2.1 y.1) : Int)))] [(6, .own 1 22 ((rhd (m.length + 1) y.2.1).map fun v => [D.v v])), (200, .any (pinK (rowF 3 (fun r_ => nth y.2.2.1 (r_ : Int)) y.2.1)))] ?_ ?_
     ·refine .block ?_; refine .loop (X := Nat) (fun a => y.1 ≤ a ∧ a ≤ m.length ∧ ∀ i : Nat, y.1 ≤ i → i < a → ce y.2.2.1 i y.1 = 0) (fun a => [(5, I (m.length)), (6, .o 6), (8, I (y.2.2.2)), (9, I (y.1)), (10, I (a))]) (fun a => [(6, .own 1 22 ((rhd (m.length + 1) y.2.1).map fun v => [D.v v])), (200, .any (pinK (rowF 3 (fun r_ => nth y.2.2.1 (r_ : Int)) y.2.1)))]) (fun a => m.length - a) y.1 ⟨by omega, by omega, fun i h1 h2 => by omega⟩ ?_ ?_
      ·exact .sl <| .sl <| .sl <| .sl <| .sl <| .memEq rfl rfl <| .memEq rfl rfl <| .nil
      ·rintro a ⟨ha1, ha2, ha3⟩
       refine .seq ?_; refine .seq ?_; refine .region ?_; refine .m ?_; refine .m ?_; refine .x (.b blss) ?_; refine .m ?_; refine .split (n := 40) rfl (fun c40 => ?_) (fun c40 => ?_)
       ·have ha : a < m.length := by simpa using c40
        refine .gt c40 ?_; refine .m ?_; refine .gt c40 ?_; refine .m ?_; refine .gt c40 ?_; refine .x (OpSem.idxo rfl rfl rfl rfl es37 (by omega) (by rw [rhd_len, hy3.l]; omega)) ?_; refine .gt c40 ?_; refine .x (OpSem.loadq rfl rfl rfl vs22 (rhd_get hy3.l (by omega) (by omega)) rfl) ?_; refine .gt c40 ?_; refine .m ?_; refine .gt c40 ?_; refine .x (OpSem.idxv rfl rfl rfl es22 rfl (by omega) (by omega)) ?_; refine .gt c40 ?_; refine .x (OpSem.mxC (h := 200) (L := y.2.1) (w := y.2.2.1) (i := (a : Int)) (j := y.1) hy3 hg.w rfl rfl rfl vs3 (by omega) (by omega) (by omega) (by omega)) ?_; refine .gt c40 ?_; refine .x (.b beql) ?_; refine .x (OpSem.pickT rfl rfl c40 rfl) ?_; refine .sq ?_; refine .cond rfl (fun c49 => ?_) (fun c49 => ?_)
        ·have hz : ce y.2.2.1 a y.1 = 0 := by simpa using c49
         refine .skip ?_; refine .seq ?_; refine .block ?_; refine .region ?_; refine .m ?_; refine .x .ad ?_; refine .a ?_; refine .nil ?_; refine .block_normal ?_; refine .again (a + 1) ⟨by omega, by omega, fun i h1 h2 => by by_cases hia : i = a; subst hia; exact hz; exact ha3 i h1 (by omega)⟩ ?_ (by omega); exact .sl <| .sl <| .sl <| .sl <| .slot rfl (Le.of_eq (by simp)) <| .mem rfl <| .mem rfl <| .nil
        ·refine .exit ?_; refine .pass_exit ?_; refine .pass_exit ?_; refine .block_same ?_
         have hAt : (atF y.2.2.1 y.1) = a := atF_at (by rw [hg.l]; omega) ha1 (by simpa using c49) ha3
         refine .meet ?_; exact .sl <| .sl <| .sl <| .sl <| .slot rfl (Le.i (by rw [hAt])) <| .mem rfl <| .mem rfl <| .nil
       ·refine .gf c40 ?_; refine .gf c40 ?_; refine .gf c40 ?_; refine .gf c40 ?_; refine .gf c40 ?_; refine .gf c40 ?_; refine .gf c40 ?_; refine .gf c40 ?_; refine .x (OpSem.pickF rfl rfl c40 rfl) ?_; refine .sq ?_; refine .condF rfl rfl ?_; refine .exit ?_; refine .pass_exit ?_; refine .pass_exit ?_; refine .block_same ?_
        have hAt : (atF y.2.2.1 y.1) = y.2.2.1.length := atF_no (fun i h1 h2 => ha3 i h1 (by rw [hg.l] at h2; simp at c40; omega))
        refine .meet ?_; exact .sl <| .sl <| .sl <| .sl <| .slot rfl (Le.i (by rw [hAt, hg.l]; simp at c40; omega)) <| .mem rfl <| .mem rfl <| .nil
     ·refine .seq ?_; refine .seq ?_; refine .region ?_; refine .m ?_; refine .m ?_; refine .x (.b beql) ?_; refine .sq ?_; refine .cond rfl (fun c54 => ?_) (fun c54 => ?_)
      ·have hp := atF_none (w := y.2.2.1) (c := y.1) (by rw [hg.l]; simp at c54; omega)
       have hno := elO_no hc hy2 hp
       refine .seq ?_; refine .region ?_; refine .a ?_; refine .a ?_; refine .a ?_; refine .sq ?_; refine .ret ?_; refine .pass_ret ?_; refine .block_ret ?_; refine .pass_ret ?_; refine .pass_ret ?_; refine .block_ret ?_; refine .pass_ret ?_; exact .ret rfl (.tmp rfl <| .tmp rfl <| .tmp rfl <| .nil) rfl (Le.t (.cons (by rw [hno]; exact Le.nil 1) <| .cons (Le.i (by rw [hno])) <| .cons (Le.bo (by rw [hno])) <| .nil))
      ·have hp := atF_some (w := y.2.2.1) (c := y.1) (by rw [hg.l]; simp at c54; omega)
       obtain ⟨hA1, hA2, hA3, _⟩ := pvt_some hp
       rw [hg.l] at hA1
       refine .skip ?_; refine .seq ?_; refine .cut [(5, I (m.length)), (6, .o 6), (8, I (y.2.2.2)), (9, I (y.1))] [(6, .own 1 22 ((rhd (m.length + 1) (swp y.2.1 (atF y.2.2.1 y.1) y.1)).map fun v => [D.v v])), (200, .any (pinK (rowF 3 (fun r_ => nth y.2.2.1 (r_ : Int)) y.2.1)))] ?_ ?_
       ·refine PC.start [] ?_; refine .m ?_; refine .m ?_; refine .m ?_; refine .m ?_; refine .m ?_; refine .m ?_; refine .x (OpSem.idxo rfl rfl rfl rfl es37 (by omega) (by rw [rhd_len, hy3.l]; omega)) ?_; refine .x (OpSem.loadq rfl rfl rfl vs22 (rhd_get hy3.l (by omega) (by omega)) rfl) ?_; refine .m ?_; refine .m ?_; refine .x (OpSem.idxo rfl rfl rfl rfl es37 (by omega) (by rw [rhd_len, hy3.l]; omega)) ?_; refine .x (OpSem.loadq rfl rfl rfl vs22 (rhd_get hy3.l (by omega) (by omega)) rfl) ?_; refine .x (OpSem.idxo rfl rfl rfl rfl es37 (by omega) (by rw [rhd_len, hy3.l]; omega)) ?_; refine .doneS [2, 3] [[], [3], [2], [2, 3]] mixed (by kernel_rfl) (by kernel_rfl) (by kernel_rfl) (by kernel_rfl) (by kernel_rfl) (by decide) rfl (by kernel_rfl) ⟨?_, ?_, ?_, ?_, trivial⟩
        ·refine ⟨[], _, by kernel_rfl, by repeat' (first | exact .nil | (apply DropRs.hit; rfl) | (apply DropRs.miss; rfl)), ?_⟩; refine .storeq rfl rfl rfl rfl rfl rfl rfl vs22 (rhd_get hy3.l (by omega) (by omega)) (by simp) ?_; refine .memEq (h := 6) (m' := .own 1 22 ((rhd (m.length + 1) (y.2.1.set (atF y.2.2.1 y.1) (nth y.2.1 y.1))).map fun v => [D.v v])) rfl (congrArg (Mo.own 1 22) rhd_set) ?_; refine TrSet.start ?_; refine .zero ?_; refine .x (OpSem.idxo rfl rfl rfl rfl es37 (by omega) (by rw [rhd_len, List.length_set, hy3.l]; omega)) ?_; refine .storeq rfl rfl rfl rfl rfl rfl rfl vs22 (rhd_get (by rw [List.length_set]; exact hy3.l) (by omega) (by omega)) (by simp) ?_; refine .memEq (h := 6) (m' := .own 1 22 ((rhd (m.length + 1) (swp y.2.1 (atF y.2.2.1 y.1) y.1)).map fun v => [D.v v])) rfl (congrArg (Mo.own 1 22) rhd_set) ?_; refine .nil ?_; refine .meet ?_; exact .all
        ·refine ⟨[58], _, by kernel_rfl, by repeat' (first | exact .nil | (apply DropRs.hit; rfl) | (apply DropRs.miss; rfl)), ?_⟩; refine .storeq rfl rfl rfl rfl rfl rfl rfl vs22 (rhd_get hy3.l (by omega) (by omega)) (by simp) ?_; refine .memEq (h := 6) (m' := .own 1 22 ((rhd (m.length + 1) (y.2.1.set (atF y.2.2.1 y.1) (nth y.2.1 y.1))).map fun v => [D.v v])) rfl (congrArg (Mo.own 1 22) rhd_set) ?_; refine TrSet.start ?_; refine .succ ⟨?_, trivial⟩
         ·refine .inr (TrI.sem rfl (OpSem.move (.inl rfl) rfl) rfl rfl (by decide) rfl ?_); refine .zero ?_; refine .x (OpSem.idxo rfl rfl rfl rfl es37 (by omega) (by rw [rhd_len, List.length_set, hy3.l]; omega)) ?_; refine .storeq rfl rfl rfl rfl rfl rfl rfl vs22 (rhd_get (by rw [List.length_set]; exact hy3.l) (by omega) (by omega)) (by simp) ?_; refine .memEq (h := 6) (m' := .own 1 22 ((rhd (m.length + 1) (swp y.2.1 (atF y.2.2.1 y.1) y.1)).map fun v => [D.v v])) rfl (congrArg (Mo.own 1 22) rhd_set) ?_; refine .nil ?_; refine .meet ?_; exact .all
        ·refine ⟨[57], _, by kernel_rfl, by repeat' (first | exact .nil | (apply DropRs.hit; rfl) | (apply DropRs.miss; rfl)), ?_⟩; refine .storeq rfl rfl rfl rfl rfl rfl rfl vs22 (rhd_get hy3.l (by omega) (by omega)) (by simp) ?_; refine .memEq (h := 6) (m' := .own 1 22 ((rhd (m.length + 1) (y.2.1.set (atF y.2.2.1 y.1) (nth y.2.1 y.1))).map fun v => [D.v v])) rfl (congrArg (Mo.own 1 22) rhd_set) ?_; refine TrSet.start ?_; refine .succ ⟨?_, trivial⟩
         ·refine .inr (TrI.sem rfl (OpSem.move (.inl rfl) rfl) rfl rfl (by decide) rfl ?_); refine .zero ?_; refine .x (OpSem.idxo rfl rfl rfl rfl es37 (by omega) (by rw [rhd_len, List.length_set, hy3.l]; omega)) ?_; refine .storeq rfl rfl rfl rfl rfl rfl rfl vs22 (rhd_get (by rw [List.length_set]; exact hy3.l) (by omega) (by omega)) (by simp) ?_; refine .memEq (h := 6) (m' := .own 1 22 ((rhd (m.length + 1) (swp y.2.1 (atF y.2.2.1 y.1) y.1)).map fun v => [D.v v])) rfl (congrArg (Mo.own 1 22) rhd_set) ?_; refine .nil ?_; refine .meet ?_; exact .all
        ·refine ⟨[57, 58], _, by kernel_rfl, by repeat' (first | exact .nil | (apply DropRs.hit; rfl) | (apply DropRs.miss; rfl)), ?_⟩; refine .storeq rfl rfl rfl rfl rfl rfl rfl vs22 (rhd_get hy3.l (by omega) (by omega)) (by simp) ?_; refine .memEq (h := 6) (m' := .own 1 22 ((rhd (m.length + 1) (y.2.1.set (atF y.2.2.1 y.1) (nth y.2.1 y.1))).map fun v => [D.v v])) rfl (congrArg (Mo.own 1 22) rhd_set) ?_; refine TrSet.start ?_; refine .succ ⟨?_, ?_, trivial⟩
         ·refine .inr (TrI.sem rfl (OpSem.move (.inl rfl) rfl) rfl rfl (by decide) rfl ?_); refine .succ ⟨?_, trivial⟩
          ·refine .inr (TrI.sem rfl (OpSem.move (.inl rfl) rfl) rfl rfl (by decide) rfl ?_); refine .zero ?_; refine .x (OpSem.idxo rfl rfl rfl rfl es37 (by omega) (by rw [rhd_len, List.length_set, hy3.l]; omega)) ?_; refine .storeq rfl rfl rfl rfl rfl rfl rfl vs22 (rhd_get (by rw [List.length_set]; exact hy3.l) (by omega) (by omega)) (by simp) ?_; refine .memEq (h := 6) (m' := .own 1 22 ((rhd (m.length + 1) (swp y.2.1 (atF y.2.2.1 y.1) y.1)).map fun v => [D.v v])) rfl (congrArg (Mo.own 1 22) rhd_set) ?_; refine .nil ?_; refine .meet ?_; exact .all
         ·refine .inr (TrI.sem rfl (OpSem.move (.inl rfl) rfl) rfl rfl (by decide) rfl ?_); refine .succ ⟨?_, trivial⟩
          ·refine .inr (TrI.sem rfl (OpSem.move (.inl rfl) rfl) rfl rfl (by decide) rfl ?_); refine .zero ?_; refine .x (OpSem.idxo rfl rfl rfl rfl es37 (by omega) (by rw [rhd_len, List.length_set, hy3.l]; omega)) ?_; refine .storeq rfl rfl rfl rfl rfl rfl rfl vs22 (rhd_get (by rw [List.length_set]; exact hy3.l) (by omega) (by omega)) (by simp) ?_; refine .memEq (h := 6) (m' := .own 1 22 ((rhd (m.length + 1) (swp y.2.1 (atF y.2.2.1 y.1) y.1)).map fun v => [D.v v])) rfl (congrArg (Mo.own 1 22) rhd_set) ?_; refine .nil ?_; refine .meet ?_; exact .all
       ·refine .seq ?_; refine .seq ?_; refine .pinEq (h := 200) rfl (rowF_swp (a := (atF y.2.2.1 y.1)) (c := y.1) hy3 hg.l hA1 hc) ?_
        have hk2 := hy3.swp (a := (atF y.2.2.1 y.1)) (c := y.1) hA1 hc
        have hg2 := hg.swap (a := (atF y.2.2.1 y.1)) (c := y.1) hc hA1 hA2
        have hl1 : (swp y.2.2.1 (atF y.2.2.1 y.1) y.1).length = m.length := hg2.l
        have hw1 : ∀ i : Nat, i < m.length → (nth (swp y.2.2.1 (atF y.2.2.1 y.1) y.1) i).length = m.length + 1 := hg2.w
        have hcc : ce (swp y.2.2.1 (atF y.2.2.1 y.1) y.1) y.1 y.1 ≠ 0 := by unfold ce; rw [nth_swp (by rw [hg.l]; exact hA1) (by rw [hg.l]; exact hc) (by rw [hg.l]; exact hc)]; unfold tw; rw [if_pos rfl]; exact hA3
        obtain ⟨hs3, hs4⟩ := hg2.small h
        have hd2 := hg2.d.2
        dsimp only at hs3 hs4 hd2
        have hgK := gaK_s hy2 hp
        rw [hg.l] at hgK
        refine .region ?_; refine .a ?_; refine .sq ?_; refine .block ?_; refine .loop (X := Nat) (fun i => i ≤ m.length) (fun i => [(5, I (m.length)), (6, .o 6), (8, I (y.2.2.2)), (9, I (y.1)), (11, I (i))]) (fun i => [(6, .own 1 22 ((rhd (m.length + 1) (swp y.2.1 (atF y.2.2.1 y.1) y.1)).map fun v => [D.v v])), (200, .any (pinK (rowF 3 (fun r_ => nth (elI (swp y.2.2.1 (atF y.2.2.1 y.1) y.1) y.1 y.2.2.2 i) (r_ : Int)) (swp y.2.1 (atF y.2.2.1 y.1) y.1))))]) (fun i => m.length - i) 0 (by omega) ?_ ?_
        ·exact .sl <| .sl <| .sl <| .sl <| .slot rfl (Le.of_eq (by simp)) <| .memEq rfl rfl <| .memEq rfl (by rw [elI_0]) <| .nil
        ·rintro i hil2
         refine .seq ?_; refine .seq ?_; refine .region ?_; refine .m ?_; refine .m ?_; refine .x (.b blss) ?_; refine .sq ?_; refine .cond rfl (fun c71 => ?_) (fun c71 => ?_)
         ·have hi : i < m.length := by simpa using c71
          refine .skip ?_; refine .seq ?_; refine .seq ?_; refine .block ?_; refine .seq ?_; refine .seq ?_; refine .region ?_; refine .m ?_; refine .m ?_; refine .x (.b beql) ?_; refine .sq ?_; refine .cond rfl (fun c76 => ?_) (fun c76 => ?_)
          ·have hic : i = y.1 := by simp at c76; omega
           have hE : elI (swp y.2.2.1 (atF y.2.2.1 y.1) y.1) y.1 y.2.2.2 i = elI (swp y.2.2.1 (atF y.2.2.1 y.1) y.1) y.1 y.2.2.2 (i + 1) := by rw [hic]; exact elI_c.symm
           refine .exit ?_; refine .pass_exit ?_; refine .block_same ?_; refine .y ?_; refine .m ?_; refine .x .ad ?_; refine .a ?_; refine .nil ?_; refine .again (i + 1) (by omega) ?_ (by omega); exact .sl <| .sl <| .sl <| .sl <| .slot rfl (Le.of_eq (by simp)) <| .mem rfl <| .memEq rfl (by rw [hE]) <| .nil
          ·have hic : i ≠ y.1 := by simp at c76; omega
           refine .skip ?_; refine .z ?_; refine .m ?_; refine .m ?_; refine .x (OpSem.idxo rfl rfl rfl rfl es37 (by omega) (by rw [rhd_len, hk2.l]; omega)) ?_; refine .x (OpSem.loadq rfl rfl rfl vs22 (rhd_get hk2.l (by omega) (by omega)) rfl) ?_; refine .m ?_; refine .x (OpSem.idxv rfl rfl rfl es22 rfl (by omega) (by omega)) ?_; refine .x (OpSem.le (s' := I (ce (swp y.2.2.1 (atF y.2.2.1 y.1) y.1) i y.1)) (OpSem.mxC (h := 200) (L := (swp y.2.1 (atF y.2.2.1 y.1) y.1)) (w := (elI (swp y.2.2.1 (atF y.2.2.1 y.1) y.1) y.1 y.2.2.2 i)) (i := (i : Int)) (j := y.1) hk2 (elI_w hl1 hw1).2 rfl rfl rfl vs3 (by omega) (by omega) (by omega) (by omega)) (Le.i (elI_row (by omega)))) ?_; refine .a ?_; refine .z ?_; refine .a ?_; refine .sq ?_; refine .block ?_; refine .loop (X := Nat) (fun j => j ≤ m.length + 1) (fun j => [(5, I (m.length)), (6, .o 6), (8, I (y.2.2.2)), (9, I (y.1)), (11, I (i)), (12, I (ce (swp y.2.2.1 (atF y.2.2.1 y.1) y.1) i y.1)), (13, I (j))]) (fun j => [(6, .own 1 22 ((rhd (m.length + 1) (swp y.2.1 (atF y.2.2.1 y.1) y.1)).map fun v => [D.v v])), (200, .any (pinK (rowF 3 (fun r_ => nth (elJ (swp y.2.2.1 (atF y.2.2.1 y.1) y.1) y.1 y.2.2.2 i j) (r_ : Int)) (swp y.2.1 (atF y.2.2.1 y.1) y.1))))]) (fun j => m.length + 1 - j) 0 (by omega) ?_ ?_
           ·exact .sl <| .sl <| .sl <| .sl <| .sl <| .sl <| .slot rfl (Le.of_eq (by simp)) <| .memEq rfl rfl <| .memEq rfl (by rw [elJ_0 (by omega) (by rw [hl1]; exact hw1 i hi)]) <| .nil
           ·rintro j hjl
            refine .seq ?_; refine .seq ?_; refine .region ?_; refine .m ?_; refine .m ?_; refine .x (.b bleq) ?_; refine .sq ?_; refine .cond rfl (fun c86 => ?_) (fun c86 => ?_)
            ·have hj : j < m.length + 1 := by simp at c86; omega
             have b1 := hs4 i hi j hj
             have b2 := hs4 y.1 hc y.1 (by omega)
             have b3 := hs4 y.1 hc j hj
             have b4 := hs4 i hi y.1 (by omega)
             have m1 := mul_abs b1 b2
             have m2 := mul_abs b4 b3
             refine .skip ?_; refine .seq ?_; refine .seq ?_; refine .block ?_; refine PC.start [] ?_; refine .m ?_; refine .m ?_; refine .x (OpSem.idxo rfl rfl rfl rfl es37 (by omega) (by rw [rhd_len, hk2.l]; omega)) ?_; refine .x (OpSem.loadq rfl rfl rfl vs22 (rhd_get hk2.l (by omega) (by omega)) rfl) ?_; refine .m ?_; refine .m ?_; refine .m ?_; refine .x (OpSem.idxo rfl rfl rfl rfl es37 (by omega) (by rw [rhd_len, hk2.l]; omega)) ?_; refine .x (OpSem.loadq rfl rfl rfl vs22 (rhd_get hk2.l (by omega) (by omega)) rfl) ?_; refine .m ?_; refine .x (OpSem.idxv rfl rfl rfl es22 rfl (by omega) (by omega)) ?_; refine .x (OpSem.le (s' := I (ce (swp y.2.2.1 (atF y.2.2.1 y.1) y.1) i j)) (OpSem.mxC (h := 200) (L := (swp y.2.1 (atF y.2.2.1 y.1) y.1)) (w := (elJ (swp y.2.2.1 (atF y.2.2.1 y.1) y.1) y.1 y.2.2.2 i j)) (i := (i : Int)) (j := j) hk2 (elJ_w hl1 hw1).2 rfl rfl rfl vs3 (by omega) (by omega) (by omega) (by omega)) (Le.i ((elJ_row (w := (swp y.2.2.1 (atF y.2.2.1 y.1) y.1)) (c := y.1) (i := i) (j := j) (last := y.2.2.2) (by omega) (by omega) hic (by omega)).1))) ?_; refine .m ?_; refine .m ?_; refine .x (OpSem.idxo rfl rfl rfl rfl es37 (by omega) (by rw [rhd_len, hk2.l]; omega)) ?_; refine .x (OpSem.loadq rfl rfl rfl vs22 (rhd_get hk2.l (by omega) (by omega)) rfl) ?_; refine .m ?_; refine .x (OpSem.idxv rfl rfl rfl es22 rfl (by omega) (by omega)) ?_; refine .x (OpSem.le (s' := I (ce (swp y.2.2.1 (atF y.2.2.1 y.1) y.1) y.1 y.1)) (OpSem.mxC (h := 200) (L := (swp y.2.1 (atF y.2.2.1 y.1) y.1)) (w := (elJ (swp y.2.2.1 (atF y.2.2.1 y.1) y.1) y.1 y.2.2.2 i j)) (i := (y.1 : Int)) (j := y.1) hk2 (elJ_w hl1 hw1).2 rfl rfl rfl vs3 (by omega) (by omega) (by omega) (by omega)) (Le.i ((elJ_row (w := (swp y.2.2.1 (atF y.2.2.1 y.1) y.1)) (c := y.1) (i := i) (j := j) (last := y.2.2.2) (by omega) (by omega) hic (by omega)).2.2))) ?_; refine .x (OpSem.bin rfl rfl rfl (bmul (by omega) (by omega))) ?_; refine .m ?_; refine .m ?_; refine .m ?_; refine .x (OpSem.idxo rfl rfl rfl rfl es37 (by omega) (by rw [rhd_len, hk2.l]; omega)) ?_; refine .x (OpSem.loadq rfl rfl rfl vs22 (rhd_get hk2.l (by omega) (by omega)) rfl) ?_; refine .m ?_; refine .x (OpSem.idxv rfl rfl rfl es22 rfl (by omega) (by omega)) ?_; refine .x (OpSem.le (s' := I (ce (swp y.2.2.1 (atF y.2.2.1 y.1) y.1) y.1 j)) (OpSem.mxC (h := 200) (L := (swp y.2.1 (atF y.2.2.1 y.1) y.1)) (w := (elJ (swp y.2.2.1 (atF y.2.2.1 y.1) y.1) y.1 y.2.2.2 i j)) (i := (y.1 : Int)) (j := j) hk2 (elJ_w hl1 hw1).2 rfl rfl rfl vs3 (by omega) (by omega) (by omega) (by omega)) (Le.i ((elJ_row (w := (swp y.2.2.1 (atF y.2.2.1 y.1) y.1)) (c := y.1) (i := i) (j := j) (last := y.2.2.2) (by omega) (by omega) hic (by omega)).2.1))) ?_; refine .x (OpSem.bin rfl rfl rfl (bmul (by omega) (by omega))) ?_; refine .x .su ?_; refine .m ?_; refine .x (OpSem.bin rfl rfl rfl (bquoT (by omega) (by omega) hd2)) ?_; refine .d0 mixed ?_; refine .x (OpSem.idxv rfl rfl rfl es22 rfl (by omega) (by omega)) ?_; refine .ofSt0 (OpSt.mxC (h := 200) (L := (swp y.2.1 (atF y.2.2.1 y.1) y.1)) (w := (elJ (swp y.2.2.1 (atF y.2.2.1 y.1) y.1) y.1 y.2.2.2 i j)) (i := (i : Int)) (j := j) hk2 (elJ_w hl1 hw1).1 (elJ_w hl1 hw1).2 rfl rfl rfl vs3 (by omega) (by omega) (by omega) (by omega)) rfl rfl rfl ?_
             refine .nil ?_; refine .block_normal ?_; refine .y ?_; refine .m ?_; refine .x .ad ?_; refine .a ?_; refine .nil ?_; refine .again (j + 1) (by omega) ?_ (by omega); exact .sl <| .sl <| .sl <| .sl <| .sl <| .sl <| .slot rfl (Le.of_eq (by simp)) <| .mem rfl <| .memEq rfl (congrArg (fun w => Mo.any (pinK (rowF 3 (fun r_ => nth w (r_ : Int)) (swp y.2.1 (atF y.2.2.1 y.1) y.1)))) (elJ_s (by omega) (by omega) rfl)) <| .nil
            ·have hj : j = m.length + 1 := by simp at c86; omega
             have hE : elJ (swp y.2.2.1 (atF y.2.2.1 y.1) y.1) y.1 y.2.2.2 i j = elI (swp y.2.2.1 (atF y.2.2.1 y.1) y.1) y.1 y.2.2.2 (i + 1) := by rw [hj, ← hl1]; exact elJ_end (by omega) hic
             refine .exit ?_; refine .pass_exit ?_; refine .pass_exit ?_; refine .block_same ?_; refine .block_normal ?_; refine .y ?_; refine .m ?_; refine .x .ad ?_; refine .a ?_; refine .nil ?_; refine .again (i + 1) (by omega) ?_ (by omega); exact .sl <| .sl <| .sl <| .sl <| .slot rfl (Le.of_eq (by simp)) <| .mem rfl <| .memEq rfl (by rw [hE]) <| .nil
         ·have hi : i = m.length := by simp at c71; omega
          subst hi
          refine .exit ?_; refine .pass_exit ?_; refine .pass_exit ?_; refine .block_same ?_; refine .y ?_; refine .m ?_; refine .m ?_; refine .x (OpSem.idxo rfl rfl rfl rfl es37 (by omega) (by rw [rhd_len, hk2.l]; omega)) ?_; refine .x (OpSem.loadq rfl rfl rfl vs22 (rhd_get hk2.l (by omega) (by omega)) rfl) ?_; refine .m ?_; refine .x (OpSem.idxv rfl rfl rfl es22 rfl (by omega) (by omega)) ?_; refine .x (OpSem.le (s' := I (ce (swp y.2.2.1 (atF y.2.2.1 y.1) y.1) y.1 y.1)) (OpSem.mxC (h := 200) (L := (swp y.2.1 (atF y.2.2.1 y.1) y.1)) (w := (elI (swp y.2.2.1 (atF y.2.2.1 y.1) y.1) y.1 y.2.2.2 m.length)) (i := (y.1 : Int)) (j := y.1) hk2 (elI_w hl1 hw1).2 rfl rfl rfl vs3 (by omega) (by omega) (by omega) (by omega)) (Le.i (elI_cc (by omega)))) ?_; refine .a ?_; refine .nil ?_; refine .block_normal ?_; refine .y ?_; refine .m ?_; refine .x .ad ?_; refine .a ?_; refine .nil ?_; refine .again (y.1 + 1, (swp y.2.1 (atF y.2.2.1 y.1) y.1), elI (swp y.2.2.1 (atF y.2.2.1 y.1) y.1) y.1 y.2.2.2 m.length, ce (swp y.2.2.1 (atF y.2.2.1 y.1) y.1) y.1 y.1) ⟨by simp only []; omega, hgK, hk2⟩ ?_ (by simp only []; omega)
          exact .sl <| .sl <| .slot rfl (Le.of_eq rfl) <| .slot rfl (Le.of_eq (by simp)) <| .memEq rfl rfl <| .memEq rfl rfl <| .nil
    ·have hc : y.1 = m.length := by simp at c33; omega
     have hx : gaK m m.length = some y.2.2 := by rw [← hc]; exact hy2
     refine .exit ?_; refine .pass_exit ?_; refine .pass_exit ?_; refine .block_same ?_; refine .z ?_; refine .a ?_; refine .sq ?_; refine .seq ?_; refine .seq ?_; refine .ownNil (n := 14) 14 1 3 rfl ?_; refine .region ?_; refine .a ?_; refine .sq ?_; refine .block ?_; refine .loop (X := Nat) (fun k => k ≤ m.length) (fun k => [(5, I (m.length)), (6, .o 6), (8, I (y.2.2.2)), (14, .o 14), (15, I (k))]) (fun k => [(6, .own 1 22 ((rhd (m.length + 1) y.2.1).map fun v => [D.v v])), (200, .any (pinK (rowF 3 (fun r_ => nth y.2.2.1 (r_ : Int)) y.2.1))), (14, .own 1 3 ((gaO y.2.2 k).map fun n => [D.v (.int .i64 n)]))]) (fun k => m.length - k) 0 (by omega) ?_ ?_
     ·exact .sl <| .sl <| .sl <| .sl <| .slot rfl (Le.of_eq (by simp)) <| .memEq rfl rfl <| .memEq rfl rfl <| .memEq rfl rfl <| .nil
     ·rintro k hkl
      refine .seq ?_; refine .seq ?_; refine .region ?_; refine .m ?_; refine .m ?_; refine .x (.b blss) ?_; refine .sq ?_; refine .cond rfl (fun c131 => ?_) (fun c131 => ?_)
      ·have hk : k < m.length := by simpa using c131
       have hb := hs2 k hk m.length (by omega)
       rw [← hg.l] at hb
       refine .skip ?_; refine .seq ?_; refine .seq ?_; refine .block ?_; refine .seq ?_; refine .region ?_; refine .m ?_; refine .x (.b blss) ?_; refine .sq ?_; refine .cond rfl (fun c135 => ?_) (fun c135 => ?_)
       ·have hn : y.2.2.2 < 0 := by simpa using c135
        refine .region ?_; refine .m ?_; refine .m ?_; refine .m ?_; refine .x (OpSem.idxo rfl rfl rfl rfl es37 (by omega) (by rw [rhd_len, hy3.l]; omega)) ?_; refine .x (OpSem.loadq rfl rfl rfl vs22 (rhd_get hy3.l (by omega) (by omega)) rfl) ?_; refine .m ?_; refine .x (OpSem.idxv rfl rfl rfl es22 rfl (by omega) (by omega)) ?_; refine .x (OpSem.le (s' := I (ce y.2.2.1 k y.2.2.1.length)) (OpSem.mxC (h := 200) (L := y.2.1) (w := y.2.2.1) (i := (k : Int)) (j := m.length) hy3 hg.w rfl rfl rfl vs3 (by omega) (by omega) (by omega) (by omega)) (Le.i (by rw [hg.l]))) ?_; refine .x (OpSem.neg rfl rfl (neg_in (by omega) (by omega))) ?_; refine .x (.bs es22 ze22) ?_; refine .append rfl rfl rfl (by decide) rfl rfl rfl es22 el22 zc3 rfl by3 (by simp [D.one, Value.oneCell']) (by simp [maxLen, gaO_len]; omega) (by simp [gaO_len]; omega) ?_; refine .a ?_; refine .nil ?_; refine .block_normal ?_; refine .y ?_; refine .m ?_; refine .x .ad ?_; refine .a ?_; refine .nil ?_; refine .again (k + 1) (by omega) ?_ (by omega); exact .sl <| .sl <| .sl <| .sl <| .slot rfl (Le.of_eq (by simp)) <| .mem rfl <| .mem rfl <| .memEq rfl (by rw [gaO_s, if_pos hn]; simp <;> rfl) <| .nil
       ·have hn : ¬ y.2.2.2 < 0 := by simpa using c135
        refine .region ?_; refine .m ?_; refine .m ?_; refine .m ?_; refine .x (OpSem.idxo rfl rfl rfl rfl es37 (by omega) (by rw [rhd_len, hy3.l]; omega)) ?_; refine .x (OpSem.loadq rfl rfl rfl vs22 (rhd_get hy3.l (by omega) (by omega)) rfl) ?_; refine .m ?_; refine .x (OpSem.idxv rfl rfl rfl es22 rfl (by omega) (by omega)) ?_; refine .x (OpSem.le (s' := I (ce y.2.2.1 k y.2.2.1.length)) (OpSem.mxC (h := 200) (L := y.2.1) (w := y.2.2.1) (i := (k : Int)) (j := m.length) hy3 hg.w rfl rfl rfl vs3 (by omega) (by omega) (by omega) (by omega)) (Le.i (by rw [hg.l]))) ?_; refine .x (.bs es22 ze22) ?_; refine .append rfl rfl rfl (by decide) rfl rfl rfl es22 el22 zc3 rfl by3 (by simp [D.one, Value.oneCell']) (by simp [maxLen, gaO_len]; omega) (by simp [gaO_len]; omega) ?_; refine .a ?_; refine .nil ?_; refine .block_normal ?_; refine .y ?_; refine .m ?_; refine .x .ad ?_; refine .a ?_; refine .nil ?_; refine .again (k + 1) (by omega) ?_ (by omega); exact .sl <| .sl <| .sl <| .sl <| .slot rfl (Le.of_eq (by simp)) <| .mem rfl <| .mem rfl <| .memEq rfl (by rw [gaO_s, if_neg hn]; simp <;> rfl) <| .nil
      ·have hk : k = m.length := by simp at c131; omega
       subst hk
       refine .exit ?_; refine .pass_exit ?_; refine .pass_exit ?_; refine .block_same ?_; refine .seq ?_; refine .seq ?_; refine .seq ?_; refine .region ?_; refine .m ?_; refine .x (.b blss) ?_; refine .sq ?_; refine .cond rfl (fun c158 => ?_) (fun c158 => ?_)
       ·have hn : y.2.2.2 < 0 := by simpa using c158
        refine .region ?_; refine .m ?_; refine .x (OpSem.neg rfl rfl (neg_in (by omega) (by omega))) ?_; refine .a ?_; refine .sq ?_; refine .seq ?_; refine .freeze 14 rfl ?_; refine .region ?_; refine .m ?_; refine .m ?_; refine .a ?_; refine .a ?_; refine .a ?_; refine .sq ?_; refine .ret ?_; exact .ret rfl (.tmp rfl <| .tmp rfl <| .tmp rfl <| .nil) rfl (Le.t (.cons (Le.of_eq (by rw [elO_yes hx])) <| .cons (Le.i (by rw [elO_yes hx]; rw [if_pos hn])) <| .cons (Le.bo (by rw [elO_yes hx])) <| .nil))
       ·have hn : ¬ y.2.2.2 < 0 := by simpa using c158
        refine .skip ?_; refine .seq ?_; refine .seq ?_; refine .freeze 14 rfl ?_; refine .region ?_; refine .m ?_; refine .m ?_; refine .a ?_; refine .a ?_; refine .a ?_; refine .sq ?_; refine .ret ?_; exact .ret rfl (.tmp rfl <| .tmp rfl <| .tmp rfl <| .nil) rfl (Le.t (.cons (Le.of_eq (by rw [elO_yes hx])) <| .cons (Le.i (by rw [elO_yes hx]; rw [if_neg hn])) <| .cons (Le.bo (by rw [elO_yes hx])) <| .nil))

end Go.Proofs.Ytlidcpmdgceboaa
end

section
/- The walk of the corners: plain part. -/

namespace Go.Eng
theorem shr_in2 {w i : Nat} (h : w ≤ 4096) : 0 ≤ (w : Int) / 2 ^ ((i : Int)).toNat ∧ (w : Int) / 2 ^ ((i : Int)).toNat ≤ 9223372036854775807 := by
  have e : (w : Int) / 2 ^ ((i : Int)).toNat = ((w / 2 ^ i : Nat) : Int) := by simp
  rw [e]
  have := Nat.div_le_self w (2 ^ i)
  generalize w / 2 ^ i = q at this ⊢
  omega
def fxR (n : Nat) (w : Bool) : Mx := if w = true then [List.replicate (n + 1) 1] else []
def onT (n k : Nat) : List Int := (List.range (n + 1)).map fun (i : Nat) => if i < k then 1 else 0
theorem onT_len {n k : Nat} : (onT n k).length = n + 1 := by simp [onT]
theorem onT_0 {n : Nat} : onT n 0 = List.replicate (n + 1) 0 := by
  refine list_nth (by simp [onT]) fun i hi => ?_
  rw [onT_len] at hi
  unfold onT; rw [nth_rangeMap hi, if_neg (by omega), nth_eq (by simpa using hi), List.getElem_replicate]
theorem onT_s {n k : Nat} (hk : k < n + 1) : (onT n k).set k 1 = onT n (k + 1) := by
  refine list_nth (by simp [onT]) fun i hi => ?_
  rw [List.length_set, onT_len] at hi
  rw [nth_set (by omega) (by rw [onT_len]; omega)]
  unfold onT; rw [nth_rangeMap hi, nth_rangeMap hi]
  by_cases h : i = k
  · subst h; rw [if_pos (by omega), if_pos (by omega)]
  · rw [if_neg (by omega)]
    by_cases h2 : i < k
    · rw [if_pos h2, if_pos (by omega)]
    · rw [if_neg h2, if_neg (by omega)]
theorem onT_end {n : Nat} : onT n (n + 1) = List.replicate (n + 1) 1 := by
  refine list_nth (by simp [onT]) fun i hi => ?_
  rw [onT_len] at hi
  unfold onT; rw [nth_rangeMap hi, if_pos hi, nth_eq (by simpa using hi), List.getElem_replicate]
section
variable {R : Mx} {b : List Int} {n : Nat}
theorem al_tk1 {k : Nat} (hk : k < R.length) : (alM R b n).take (k + 1) = (alM R b n).take k ++ [nth R k ++ [nth b k]] := by
  rw [tk_s (by rw [alM_len]; omega), alM_row hk]
theorem al_tk2 {j : Nat} (hj : j < n) : (alM R b n).take (R.length + (j + 1)) = (alM R b n).take (R.length + j) ++ [(List.replicate (n + 1) (0 : Int)).set j (-1)] := by
  rw [← Nat.add_assoc, tk_s (by rw [alM_len]; omega), alM_neg hj]
theorem al_end : (alM R b n).take (R.length + n) = alM R b n := by rw [← alM_len (b := b), List.take_length]
end
section
variable {A F : Mx} {n : Nat}
theorem okC_t {x : List Int} {d : Int} {k : Nat} (h : pdN n (nth A k) x ≤ ce A k n * d) : okC A n x d (k + 1) = okC A n x d k := by simp only [okC]; rw [decide_eq_true h, Bool.and_true]
theorem okC_f {x : List Int} {d : Int} {k : Nat} (h : ¬ pdN n (nth A k) x ≤ ce A k n * d) : okC A n x d (k + 1) = false := by simp only [okC]; rw [decide_eq_false h, Bool.and_false]
theorem coW_1 {w : Nat} (h : (slT A F n w A.length).length ≠ n) : coW A F n w = none := by unfold coW; rw [if_neg h]
theorem coW_2 {w : Nat} (h : gaF (slT A F n w A.length) = none) : coW A F n w = none := by
  unfold coW
  split
  · rw [h]; rfl
  · rfl
theorem coW_3 {w : Nat} {x : List Int} {d : Int} (hg : gaF (slT A F n w A.length) = some (x, d)) (h : okC A n x d A.length = false) : coW A F n w = none := by
  unfold coW
  split
  · rw [hg]
    show (if okC A n x d A.length = true then some (x, d) else none) = none
    rw [if_neg (by rw [h]; decide)]
  · rfl
theorem coW_4 {w : Nat} {x : List Int} {d : Int} (hl : (slT A F n w A.length).length = n) (hg : gaF (slT A F n w A.length) = some (x, d)) (h : okC A n x d A.length = true) : coW A F n w = some (x, d) := by
  unfold coW
  rw [if_pos hl, hg]
  show (if okC A n x d A.length = true then some (x, d) else none) = _
  rw [if_pos h]
theorem coT_n {w : Nat} (h : coW A F n w = none) : coT A F n (w + 1) = coT A F n w := by simp only [coT]; rw [h]; simp
theorem coT_c {w : Nat} {c : List Int × Int} (h : coW A F n w = some c) : coT A F n (w + 1) = coT A F n w ++ [c] := by simp only [coT]; rw [h]; simp
theorem elO_t {m : Mx} (h : (elO m).2.2 = true) : gaF m = some ((elO m).1, (elO m).2.1) := by
  unfold elO at h ⊢
  cases hg : gaF m with
  | none => rw [hg] at h; cases h
  | some c => rfl
theorem elO_f {m : Mx} (h : (elO m).2.2 = false) : gaF m = none := by
  unfold elO at h
  cases hg : gaF m with
  | none => rfl
  | some c => rw [hg] at h; cases h
theorem pd_take {a x : List Int} (ha : a.length = n + 1) : sm (a.take n).length (fun j => nth (a.take n) j * nth x j) = pdN n a x := by
  have hl : (a.take n).length = n := by rw [List.length_take]; omega
  unfold pdN
  rw [hl]
  exact sm_congr fun j hj => by
    rw [nth_eq (l := a.take n) (by rw [hl]; exact hj), nth_eq (l := a) (by omega), List.getElem_take]
theorem pd_tk_in {a x : List Int} (hn : n ≤ 6) (ha : a.length = n + 1) (h1 : ∀ y, y ∈ a → -1 ≤ y ∧ y ≤ 1) (hx : ∀ j : Nat, j < n → -720 ≤ nth x j ∧ nth x j ≤ 720) : ∀ k : Nat, k ≤ (a.take n).length → -1000000000 ≤ sm k (fun j => nth (a.take n) j * nth x j) ∧ sm k (fun j => nth (a.take n) j * nth x j) ≤ 1000000000 := fun k hk => by
  have hl : (a.take n).length = n := by rw [List.length_take]; omega
  have := pd_abs (o := a.take n) (x := x) hn (fun j hj => by
    have := h1 _ (List.mem_of_mem_take (nth_mem (l := a.take n) (n := (j : Int)) (by omega) (by omega)))
    omega) hx k (by omega)
  omega
theorem pdN_in {a x : List Int} (hn : n ≤ 6) (ha : a.length = n + 1) (h1 : ∀ y, y ∈ a → -1 ≤ y ∧ y ≤ 1) (hx : ∀ j : Nat, j < n → -720 ≤ nth x j ∧ nth x j ≤ 720) : -86400 ≤ pdN n a x ∧ pdN n a x ≤ 86400 :=
  pd_abs hn (fun j hj => by have := h1 _ (nth_mem (l := a) (n := (j : Int)) (by omega) (by omega)); omega) hx n (Nat.le_refl _)
end
theorem coF_len {A F : Mx} {n : Nat} (h : AlP A F n) : (coF A F n).length ≤ 4096 := by
  have h1 := coT_len (A := A) (F := F) (n := n) (k := 2 ^ A.length)
  have h2 : 2 ^ A.length ≤ 2 ^ 12 := Nat.pow_le_pow_right (by omega) h.l
  unfold coF
  exact Nat.le_trans h1 (Nat.le_trans h2 (by decide))
theorem lvT_in {p : LPr} (hp : LpC p) {k : Nat} (hk : k < (lvL p).length) : (-86400 ≤ (lvT p.obj p.obj.length (lvL p) k).1 ∧ (lvT p.obj p.obj.length (lvL p) k).1 ≤ 86400) ∧ (0 < (lvT p.obj p.obj.length (lvL p) k).2 ∧ (lvT p.obj p.obj.length (lvL p) k).2 ≤ 720) := by
  obtain ⟨⟨i, hi, he⟩, _⟩ := lvT_spec (o := p.obj) (n := p.obj.length) (l := lvL p) (fun i hi => (lvL_at hp hi).d.1) hk
  have hci := lvL_at hp (i := i) (by omega)
  rw [he]
  exact ⟨pd_abs hp.ok.o6 (fun j hj => by have := hp.o j hj; omega) hci.x _ (Nat.le_refl _), hci.d⟩
theorem obj_pd {p : LPr} (hp : LpC p) {x : List Int} (hx : ∀ i : Nat, i < p.obj.length → -720 ≤ nth x i ∧ nth x i ≤ 720) : (∀ k : Nat, k ≤ p.obj.length → -1000000000 ≤ sm k (fun j => nth p.obj j * nth x j) ∧ sm k (fun j => nth p.obj j * nth x j) ≤ 1000000000) ∧ -86400 ≤ pdN p.obj.length p.obj x ∧ pdN p.obj.length p.obj x ≤ 86400 :=
  ⟨fun k hk => by have := pd_abs (o := p.obj) hp.ok.o6 (fun j hj => by have := hp.o j hj; omega) hx k hk; omega, pd_abs hp.ok.o6 (fun j hj => by have := hp.o j hj; omega) hx _ (Nat.le_refl _)⟩
theorem lvS_0 {p : LPr} (h : lvL p = []) : lvS p = 2 ∧ lvN p = (0, 1) := by unfold lvS lvN; rw [if_pos h, if_pos h]; exact ⟨rfl, rfl⟩
theorem lvS_1 {p : LPr} (h : lvL p ≠ []) : lvS p = 1 ∧ lvN p = lvT p.obj p.obj.length (lvL p) ((lvL p).length - 1) := by unfold lvS lvN; rw [if_neg h, if_neg h]; exact ⟨rfl, rfl⟩
end Go.Eng
end
