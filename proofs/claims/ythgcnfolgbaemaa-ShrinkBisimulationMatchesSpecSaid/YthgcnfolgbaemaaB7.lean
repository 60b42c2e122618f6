/- The engine and the walks that this claim uses, part 7. Written by prune.py out of our own texts. -/
import Derived.Test.YthgcnfolgbaemaaB6
section
/- Walks, written by gen.py out of hints. -/




set_option linter.unusedVariables false
set_option linter.unusedSimpArgs false
namespace Go.Proofs.Ythgcnfolgbaemaa
open Go.Eng
set_option maxRecDepth 10000
set_option maxHeartbeats 1000000

theorem Q_alike_does (a : Abs) (part : List Int) (x y : Int) (hA : AbsOk a) (hp : part.length = nS a) : Does Try.prog false 30 [absS a, .d (ints part), I (x), I (y)] (Bo (decide (AlkP (peq part) a x y))) := by
  have hns := nS_eq hA
  have hal := hA.len
  have hst := hA.head.1
  refine Does.of_body Try.func30 rfl rfl (by simp) Try.call30 (fun w0 O0 => ?_)
  refine Tr.lenG (n := 0) (i := 2) rfl rfl (fun len0_2 => ?_)
  refine Tr.lenG (n := 0) (i := 4) rfl rfl (fun len0_4 => ?_)
  refine Tr.lenLe (n := 1) rfl (fun len1 => ?_)
  refine Tr.seq ?_
  refine Tr.region ?_
  refine TrOps.semM (OpSem.box 4 rfl rfl rfl rfl) rfl rfl (by decide) ?_
  refine TrOps.sem (OpSem.move (.inr rfl) rfl) rfl rfl (by decide) ?_
  refine TrOps.nil ?_
  refine At.seq ?_
  refine Tr.seq ?_
  refine Tr.seq ?_
  refine Tr.region ?_
  refine TrOps.sem (OpSem.move (.inr rfl) rfl) rfl rfl (by decide) ?_
  refine TrOps.nil ?_
  refine At.seq ?_
  refine Tr.block ?_
  refine Tr.loop (X := Nat) (fun k => k ≤ a.arcs.length ∧ ∀ i : Nat, i < k → (nth a.arcs i).fr = x → mtF (peq part) a y i a.arcs.length = true) (fun k => [(1, .d (ints part)), (2, I (x)), (3, I (y)), (4, .r 4 0), (9, I (k))]) (fun k => [(4, .box [I (a.states), I (a.labels), .d (arcsD a.arcs), I (a.init), .d (ints a.goals)])]) (fun k => a.arcs.length - k) 0 ⟨by omega, by simp⟩ ?_ ?_
  · exact .slot rfl (.refl _) <| .slot rfl (.refl _) <| .slot rfl (.refl _) <| .slot rfl (.refl _) <| .slot rfl (Le.of_eq (by simp)) <| .mem rfl <| .nil
  · rintro k ⟨hkl, hinv⟩
    refine Tr.seq ?_
    refine Tr.seq ?_
    refine Tr.region ?_
    refine TrOps.sem (OpSem.move (.inl rfl) rfl) rfl rfl (by decide) ?_
    refine TrOps.sem (OpSem.fieldr rfl rfl fo25_2) rfl rfl (by decide) ?_
    refine TrOps.sem (OpSem.loadb1 rfl rfl rfl vs22 rfl) rfl rfl (by decide) ?_
    refine TrOps.sem (OpSem.lenL rfl rfl es22) rfl rfl (by decide) ?_
    refine TrOps.sem (OpSem.bin rfl rfl rfl blss) rfl rfl (by decide) ?_
    refine TrOps.nil ?_
    refine At.seq ?_
    refine Tr.cond rfl (fun c16 => ?_) (fun c16 => ?_)
    · have hk : k < a.arcs.length := by simpa using c16
      have hx := hA.arc k hk
      refine Tr.skip ?_
      refine At.seq ?_
      refine Tr.seq ?_
      refine Tr.block ?_
      refine Tr.seq ?_
      refine Tr.seq ?_
      refine Tr.region ?_
      refine TrOps.sem (OpSem.fieldr rfl rfl fo25_2) rfl rfl (by decide) ?_
      refine TrOps.sem (OpSem.loadb1 rfl rfl rfl vs22 rfl) rfl rfl (by decide) ?_
      refine TrOps.sem (OpSem.move (.inl rfl) rfl) rfl rfl (by decide) ?_
      refine TrOps.sem (OpSem.idxL rfl rfl rfl es22 (by omega) (by omega)) rfl rfl (by decide) ?_
      refine TrOps.sem (OpSem.fieldp rfl rfl fo57_0) rfl rfl (by decide) ?_
      refine TrOps.sem (OpSem.load1 rfl rfl vs3 rfl) rfl rfl (by decide) ?_
      refine TrOps.sem (OpSem.move (.inl rfl) rfl) rfl rfl (by decide) ?_
      refine TrOps.sem (OpSem.bin rfl rfl rfl bneq) rfl rfl (by decide) ?_
      refine TrOps.nil ?_
      refine At.seq ?_
      refine Tr.cond rfl (fun c26 => ?_) (fun c26 => ?_)
      · have hb : (nth a.arcs k).fr = x → mtF (peq part) a y k a.arcs.length = true := fun h => by simp [h] at c26
        refine Tr.exit ?_
        refine At.pass_exit ?_
        refine At.block_same ?_
        refine At.seq ?_
        refine Tr.region ?_
        refine TrOps.sem (OpSem.move (.inl rfl) rfl) rfl rfl (by decide) ?_
        refine TrOps.sem (OpSem.bin rfl rfl rfl (badd (by omega) (by omega))) rfl rfl (by decide) ?_
        refine TrOps.sem (OpSem.move (.inr rfl) rfl) rfl rfl (by decide) ?_
        refine TrOps.nil ?_
        refine At.again (k + 1) ⟨by omega, all_succ hinv hb⟩ ?_ (by omega)
        exact .slot rfl (.refl _) <| .slot rfl (.refl _) <| .slot rfl (.refl _) <| .slot rfl (.refl _) <| .slot rfl (Le.of_eq (by simp)) <| .mem rfl <| .nil
      · have hf : (nth a.arcs k).fr = x := by simpa using c26
        refine Tr.skip ?_
        refine At.seq ?_
        refine Tr.seq ?_
        refine Tr.region ?_
        refine TrOps.sem (OpSem.move (.inr rfl) rfl) rfl rfl (by decide) ?_
        refine TrOps.nil ?_
        refine At.seq ?_
        refine Tr.seq ?_
        refine Tr.seq ?_
        refine Tr.region ?_
        refine TrOps.sem (OpSem.move (.inr rfl) rfl) rfl rfl (by decide) ?_
        refine TrOps.nil ?_
        refine At.seq ?_
        refine Tr.block ?_
        refine Tr.loop (X := Nat) (fun j => j ≤ a.arcs.length) (fun j => [(1, .d (ints part)), (2, I (x)), (3, I (y)), (4, .r 4 0), (9, I (k)), (10, Bo (mtF (peq part) a y k j)), (11, I (j))]) (fun j => [(4, .box [I (a.states), I (a.labels), .d (arcsD a.arcs), I (a.init), .d (ints a.goals)])]) (fun j => a.arcs.length - j) 0 (by omega) ?_ ?_
        · exact .slot rfl (.refl _) <| .slot rfl (.refl _) <| .slot rfl (.refl _) <| .slot rfl (.refl _) <| .slot rfl (.refl _) <| .slot rfl (Le.bo rfl) <| .slot rfl (Le.of_eq (by simp)) <| .mem rfl <| .nil
        · rintro j hjl
          refine Tr.seq ?_
          refine Tr.seq ?_
          refine Tr.region ?_
          refine TrOps.sem (OpSem.move (.inl rfl) rfl) rfl rfl (by decide) ?_
          refine TrOps.sem (OpSem.fieldr rfl rfl fo25_2) rfl rfl (by decide) ?_
          refine TrOps.sem (OpSem.loadb1 rfl rfl rfl vs22 rfl) rfl rfl (by decide) ?_
          refine TrOps.sem (OpSem.lenL rfl rfl es22) rfl rfl (by decide) ?_
          refine TrOps.sem (OpSem.bin rfl rfl rfl blss) rfl rfl (by decide) ?_
          refine TrOps.nil ?_
          refine At.seq ?_
          refine Tr.cond rfl (fun c31 => ?_) (fun c31 => ?_)
          · have hj : j < a.arcs.length := by simpa using c31
            have hy := hA.arc j hj
            refine Tr.skip ?_
            refine At.seq ?_
            refine Tr.seq ?_
            refine Tr.block ?_
            refine Tr.seq ?_
            refine PC.start [] ?_
            refine PC.sem (OpSem.fieldr rfl rfl fo25_2) rfl rfl ?_
            refine PC.sem (OpSem.loadb1 rfl rfl rfl vs22 rfl) rfl rfl ?_
            refine PC.sem (OpSem.move (.inl rfl) rfl) rfl rfl ?_
            refine PC.sem (OpSem.idxL rfl rfl rfl es22 (by omega) (by omega)) rfl rfl ?_
            refine PC.sem (OpSem.fieldp rfl rfl fo57_0) rfl rfl ?_
            refine PC.sem (OpSem.load1 rfl rfl vs3 rfl) rfl rfl ?_
            refine PC.sem (OpSem.move (.inl rfl) rfl) rfl rfl ?_
            refine PC.sem (OpSem.bin rfl rfl rfl beql) rfl rfl ?_
            refine PC.sem (OpSem.move (.inl rfl) rfl) rfl rfl ?_
            refine PC.split (n := 42) rfl (fun c42 => ?_) (fun c42 => ?_)
            · refine PC.gT (OpSem.fieldr rfl rfl fo25_2) rfl rfl rfl rfl c42 rfl ?_
              refine PC.gT (OpSem.loadb1 rfl rfl rfl vs22 rfl) rfl rfl rfl rfl c42 rfl ?_
              refine PC.gT (OpSem.move (.inl rfl) rfl) rfl rfl rfl rfl c42 rfl ?_
              refine PC.gT (OpSem.idxL rfl rfl rfl es22 (by omega) (by omega)) rfl rfl rfl rfl c42 rfl ?_
              refine PC.gT (OpSem.fieldp rfl rfl fo57_1) rfl rfl rfl rfl c42 rfl ?_
              refine PC.gT (OpSem.load1 rfl rfl vs3 rfl) rfl rfl rfl rfl c42 rfl ?_
              refine PC.gT (OpSem.fieldr rfl rfl fo25_2) rfl rfl rfl rfl c42 rfl ?_
              refine PC.gT (OpSem.loadb1 rfl rfl rfl vs22 rfl) rfl rfl rfl rfl c42 rfl ?_
              refine PC.gT (OpSem.move (.inl rfl) rfl) rfl rfl rfl rfl c42 rfl ?_
              refine PC.gT (OpSem.idxL rfl rfl rfl es22 (by omega) (by omega)) rfl rfl rfl rfl c42 rfl ?_
              refine PC.gT (OpSem.fieldp rfl rfl fo57_1) rfl rfl rfl rfl c42 rfl ?_
              refine PC.gT (OpSem.load1 rfl rfl vs3 rfl) rfl rfl rfl rfl c42 rfl ?_
              refine PC.gT (OpSem.bin rfl rfl rfl beql) rfl rfl rfl rfl c42 rfl ?_
              refine PC.sem (OpSem.pickT rfl rfl c42 rfl) rfl rfl ?_
              refine PC.sem (OpSem.move (.inl rfl) rfl) rfl rfl ?_
              refine PC.split (n := 57) rfl (fun c57 => ?_) (fun c57 => ?_)
              · refine PC.gT (OpSem.move (.inl rfl) rfl) rfl rfl rfl rfl c57 rfl ?_
                refine PC.gT (OpSem.fieldr rfl rfl fo25_2) rfl rfl rfl rfl c57 rfl ?_
                refine PC.gT (OpSem.loadb1 rfl rfl rfl vs22 rfl) rfl rfl rfl rfl c57 rfl ?_
                refine PC.gT (OpSem.move (.inl rfl) rfl) rfl rfl rfl rfl c57 rfl ?_
                refine PC.gT (OpSem.idxL rfl rfl rfl es22 (by omega) (by omega)) rfl rfl rfl rfl c57 rfl ?_
                refine PC.gT (OpSem.fieldp rfl rfl fo57_2) rfl rfl rfl rfl c57 rfl ?_
                refine PC.gT (OpSem.load1 rfl rfl vs3 rfl) rfl rfl rfl rfl c57 rfl ?_
                refine PC.gT (OpSem.idxL rfl rfl rfl es23 (by omega) (by omega)) rfl rfl rfl rfl c57 rfl ?_
                refine PC.gT (OpSem.load1 rfl rfl vs3 rfl) rfl rfl rfl rfl c57 rfl ?_
                refine PC.gT (OpSem.move (.inl rfl) rfl) rfl rfl rfl rfl c57 rfl ?_
                refine PC.gT (OpSem.fieldr rfl rfl fo25_2) rfl rfl rfl rfl c57 rfl ?_
                refine PC.gT (OpSem.loadb1 rfl rfl rfl vs22 rfl) rfl rfl rfl rfl c57 rfl ?_
                refine PC.gT (OpSem.move (.inl rfl) rfl) rfl rfl rfl rfl c57 rfl ?_
                refine PC.gT (OpSem.idxL rfl rfl rfl es22 (by omega) (by omega)) rfl rfl rfl rfl c57 rfl ?_
                refine PC.gT (OpSem.fieldp rfl rfl fo57_2) rfl rfl rfl rfl c57 rfl ?_
                refine PC.gT (OpSem.load1 rfl rfl vs3 rfl) rfl rfl rfl rfl c57 rfl ?_
                refine PC.gT (OpSem.idxL rfl rfl rfl es23 (by omega) (by omega)) rfl rfl rfl rfl c57 rfl ?_
                refine PC.gT (OpSem.load1 rfl rfl vs3 rfl) rfl rfl rfl rfl c57 rfl ?_
                refine PC.done0 mixed (by kernel_rfl) (by kernel_rfl) (by kernel_rfl) (by kernel_rfl) (by kernel_rfl) ?_
                refine TrOps.gT rfl rfl rfl rfl c57 ?_
                refine TrOps.sem (OpSem.bin rfl rfl rfl beql) rfl rfl (by decide) ?_
                refine TrOps.sem (OpSem.pickT rfl rfl c57 rfl) rfl rfl (by decide) ?_
                refine TrOps.nil ?_
                refine At.seq ?_
                refine Tr.cond rfl (fun c77 => ?_) (fun c77 => ?_)
                · refine Tr.region ?_
                  refine TrOps.sem (OpSem.move (.inr rfl) rfl) rfl rfl (by decide) ?_
                  refine TrOps.nil ?_
                  refine At.block_normal ?_
                  refine At.seq ?_
                  refine Tr.region ?_
                  refine TrOps.sem (OpSem.move (.inl rfl) rfl) rfl rfl (by decide) ?_
                  refine TrOps.sem (OpSem.bin rfl rfl rfl (badd (by omega) (by omega))) rfl rfl (by decide) ?_
                  refine TrOps.sem (OpSem.move (.inr rfl) rfl) rfl rfl (by decide) ?_
                  refine TrOps.nil ?_
                  refine At.again (j + 1) (by omega) ?_ (by omega)
                  exact .slot rfl (.refl _) <| .slot rfl (.refl _) <| .slot rfl (.refl _) <| .slot rfl (.refl _) <| .slot rfl (.refl _) <| .slot rfl (Le.bo (by simp only [mtF, peq]; simp_all)) <| .slot rfl (Le.of_eq (by simp)) <| .mem rfl <| .nil
                · refine Tr.skip ?_
                  refine At.block_normal ?_
                  refine At.seq ?_
                  refine Tr.region ?_
                  refine TrOps.sem (OpSem.move (.inl rfl) rfl) rfl rfl (by decide) ?_
                  refine TrOps.sem (OpSem.bin rfl rfl rfl (badd (by omega) (by omega))) rfl rfl (by decide) ?_
                  refine TrOps.sem (OpSem.move (.inr rfl) rfl) rfl rfl (by decide) ?_
                  refine TrOps.nil ?_
                  refine At.again (j + 1) (by omega) ?_ (by omega)
                  exact .slot rfl (.refl _) <| .slot rfl (.refl _) <| .slot rfl (.refl _) <| .slot rfl (.refl _) <| .slot rfl (.refl _) <| .slot rfl (Le.bo (by simp only [mtF, peq]; simp_all)) <| .slot rfl (Le.of_eq (by simp)) <| .mem rfl <| .nil
              · refine PC.gF rfl rfl rfl rfl c57 rfl ?_
                refine PC.gF rfl rfl rfl rfl c57 rfl ?_
                refine PC.gF rfl rfl rfl rfl c57 rfl ?_
                refine PC.gF rfl rfl rfl rfl c57 rfl ?_
                refine PC.gF rfl rfl rfl rfl c57 rfl ?_
                refine PC.gF rfl rfl rfl rfl c57 rfl ?_
                refine PC.gF rfl rfl rfl rfl c57 rfl ?_
                refine PC.gF rfl rfl rfl rfl c57 rfl ?_
                refine PC.gF rfl rfl rfl rfl c57 rfl ?_
                refine PC.gF rfl rfl rfl rfl c57 rfl ?_
                refine PC.gF rfl rfl rfl rfl c57 rfl ?_
                refine PC.gF rfl rfl rfl rfl c57 rfl ?_
                refine PC.gF rfl rfl rfl rfl c57 rfl ?_
                refine PC.gF rfl rfl rfl rfl c57 rfl ?_
                refine PC.gF rfl rfl rfl rfl c57 rfl ?_
                refine PC.gF rfl rfl rfl rfl c57 rfl ?_
                refine PC.gF rfl rfl rfl rfl c57 rfl ?_
                refine PC.gF rfl rfl rfl rfl c57 rfl ?_
                refine PC.done0 mixed (by kernel_rfl) (by kernel_rfl) (by kernel_rfl) (by kernel_rfl) (by kernel_rfl) ?_
                refine TrOps.gF rfl rfl rfl rfl c57 rfl (by decide) ?_
                refine TrOps.sem (OpSem.pickF rfl rfl c57 rfl) rfl rfl (by decide) ?_
                refine TrOps.nil ?_
                refine At.seq ?_
                refine Tr.condF rfl rfl ?_
                refine Tr.skip ?_
                refine At.block_normal ?_
                refine At.seq ?_
                refine Tr.region ?_
                refine TrOps.sem (OpSem.move (.inl rfl) rfl) rfl rfl (by decide) ?_
                refine TrOps.sem (OpSem.bin rfl rfl rfl (badd (by omega) (by omega))) rfl rfl (by decide) ?_
                refine TrOps.sem (OpSem.move (.inr rfl) rfl) rfl rfl (by decide) ?_
                refine TrOps.nil ?_
                refine At.again (j + 1) (by omega) ?_ (by omega)
                exact .slot rfl (.refl _) <| .slot rfl (.refl _) <| .slot rfl (.refl _) <| .slot rfl (.refl _) <| .slot rfl (.refl _) <| .slot rfl (Le.bo (by simp only [mtF, peq]; simp_all)) <| .slot rfl (Le.of_eq (by simp)) <| .mem rfl <| .nil
            · refine PC.gF rfl rfl rfl rfl c42 rfl ?_
              refine PC.gF rfl rfl rfl rfl c42 rfl ?_
              refine PC.gF rfl rfl rfl rfl c42 rfl ?_
              refine PC.gF rfl rfl rfl rfl c42 rfl ?_
              refine PC.gF rfl rfl rfl rfl c42 rfl ?_
              refine PC.gF rfl rfl rfl rfl c42 rfl ?_
              refine PC.gF rfl rfl rfl rfl c42 rfl ?_
              refine PC.gF rfl rfl rfl rfl c42 rfl ?_
              refine PC.gF rfl rfl rfl rfl c42 rfl ?_
              refine PC.gF rfl rfl rfl rfl c42 rfl ?_
              refine PC.gF rfl rfl rfl rfl c42 rfl ?_
              refine PC.gF rfl rfl rfl rfl c42 rfl ?_
              refine PC.gF rfl rfl rfl rfl c42 rfl ?_
              refine PC.sem (OpSem.pickF rfl rfl c42 rfl) rfl rfl ?_
              refine PC.sem (OpSem.move (.inl rfl) rfl) rfl rfl ?_
              refine PC.gF rfl rfl rfl rfl rfl rfl ?_
              refine PC.gF rfl rfl rfl rfl rfl rfl ?_
              refine PC.gF rfl rfl rfl rfl rfl rfl ?_
              refine PC.gF rfl rfl rfl rfl rfl rfl ?_
              refine PC.gF rfl rfl rfl rfl rfl rfl ?_
              refine PC.gF rfl rfl rfl rfl rfl rfl ?_
              refine PC.gF rfl rfl rfl rfl rfl rfl ?_
              refine PC.gF rfl rfl rfl rfl rfl rfl ?_
              refine PC.gF rfl rfl rfl rfl rfl rfl ?_
              refine PC.gF rfl rfl rfl rfl rfl rfl ?_
              refine PC.gF rfl rfl rfl rfl rfl rfl ?_
              refine PC.gF rfl rfl rfl rfl rfl rfl ?_
              refine PC.gF rfl rfl rfl rfl rfl rfl ?_
              refine PC.gF rfl rfl rfl rfl rfl rfl ?_
              refine PC.gF rfl rfl rfl rfl rfl rfl ?_
              refine PC.gF rfl rfl rfl rfl rfl rfl ?_
              refine PC.gF rfl rfl rfl rfl rfl rfl ?_
              refine PC.gF rfl rfl rfl rfl rfl rfl ?_
              refine PC.done0 mixed (by kernel_rfl) (by kernel_rfl) (by kernel_rfl) (by kernel_rfl) (by kernel_rfl) ?_
              refine TrOps.gF rfl rfl rfl rfl rfl rfl (by decide) ?_
              refine TrOps.sem (OpSem.pickF rfl rfl rfl rfl) rfl rfl (by decide) ?_
              refine TrOps.nil ?_
              refine At.seq ?_
              refine Tr.condF rfl rfl ?_
              refine Tr.skip ?_
              refine At.block_normal ?_
              refine At.seq ?_
              refine Tr.region ?_
              refine TrOps.sem (OpSem.move (.inl rfl) rfl) rfl rfl (by decide) ?_
              refine TrOps.sem (OpSem.bin rfl rfl rfl (badd (by omega) (by omega))) rfl rfl (by decide) ?_
              refine TrOps.sem (OpSem.move (.inr rfl) rfl) rfl rfl (by decide) ?_
              refine TrOps.nil ?_
              refine At.again (j + 1) (by omega) ?_ (by omega)
              exact .slot rfl (.refl _) <| .slot rfl (.refl _) <| .slot rfl (.refl _) <| .slot rfl (.refl _) <| .slot rfl (.refl _) <| .slot rfl (Le.bo (by simp only [mtF, peq]; simp_all)) <| .slot rfl (Le.of_eq (by simp)) <| .mem rfl <| .nil
          · have hj : j = a.arcs.length := by simp at c31; omega
            subst hj
            refine Tr.exit ?_
            refine At.pass_exit ?_
            refine At.pass_exit ?_
            refine At.block_same ?_
            refine At.seq ?_
            refine Tr.seq ?_
            refine Tr.region ?_
            refine TrOps.sem (OpSem.move (.inl rfl) rfl) rfl rfl (by decide) ?_
            refine TrOps.sem (OpSem.not rfl rfl) rfl rfl (by decide) ?_
            refine TrOps.nil ?_
            refine At.seq ?_
            refine Tr.cond rfl (fun c79 => ?_) (fun c79 => ?_)
            · refine Tr.seq ?_
              refine Tr.region ?_
              refine TrOps.sem (OpSem.move (.inr rfl) rfl) rfl rfl (by decide) ?_
              refine TrOps.nil ?_
              refine At.seq ?_
              refine Tr.ret ?_
              refine At.block_ret ?_
              refine At.pass_ret ?_
              refine At.pass_ret ?_
              refine At.block_ret ?_
              refine At.pass_ret ?_
              exact At.ret rfl (.tmp rfl <| .nil) rfl (Le.bo (decide_eq_false (fun h => by have q := h k hk hf; rw [q] at c79; simp at c79)).symm)
            · have hb : (nth a.arcs k).fr = x → mtF (peq part) a y k a.arcs.length = true := fun _ => by simpa using c79
              refine Tr.skip ?_
              refine At.block_normal ?_
              refine At.seq ?_
              refine Tr.region ?_
              refine TrOps.sem (OpSem.move (.inl rfl) rfl) rfl rfl (by decide) ?_
              refine TrOps.sem (OpSem.bin rfl rfl rfl (badd (by omega) (by omega))) rfl rfl (by decide) ?_
              refine TrOps.sem (OpSem.move (.inr rfl) rfl) rfl rfl (by decide) ?_
              refine TrOps.nil ?_
              refine At.again (k + 1) ⟨by omega, all_succ hinv hb⟩ ?_ (by omega)
              exact .slot rfl (.refl _) <| .slot rfl (.refl _) <| .slot rfl (.refl _) <| .slot rfl (.refl _) <| .slot rfl (Le.of_eq (by simp)) <| .mem rfl <| .nil
    · have hk : k = a.arcs.length := by simp at c16; omega
      subst hk
      refine Tr.exit ?_
      refine At.pass_exit ?_
      refine At.pass_exit ?_
      refine At.block_same ?_
      refine At.seq ?_
      refine Tr.seq ?_
      refine Tr.region ?_
      refine TrOps.sem (OpSem.move (.inr rfl) rfl) rfl rfl (by decide) ?_
      refine TrOps.nil ?_
      refine At.seq ?_
      refine Tr.ret ?_
      exact At.ret rfl (.tmp rfl <| .nil) rfl (Le.bo (decide_eq_true hinv).symm)

theorem Q_IsBisimulation_does (a : Abs) (part : List Int) (hA : AbsOk a) (hp : part.length = nS a) : Does Try.prog false 12 [absS a, .d (ints part)] (Bo (decide (IsB a part))) := by
  have hns := nS_eq hA
  have hal := hA.len
  have hst := hA.head.1
  refine Does.of_body Try.func12 rfl rfl (by simp) Try.call12 (fun w0 O0 => ?_)
  refine Tr.lenG (n := 0) (i := 2) rfl rfl (fun len0_2 => ?_)
  refine Tr.lenG (n := 0) (i := 4) rfl rfl (fun len0_4 => ?_)
  refine Tr.lenLe (n := 1) rfl (fun len1 => ?_)
  refine Tr.seq ?_
  refine Tr.region ?_
  refine TrOps.semM (OpSem.box 2 rfl rfl rfl rfl) rfl rfl (by decide) ?_
  refine TrOps.sem (OpSem.move (.inr rfl) rfl) rfl rfl (by decide) ?_
  refine TrOps.nil ?_
  refine At.seq ?_
  refine Tr.seq ?_
  refine Tr.seq ?_
  refine Tr.region ?_
  refine TrOps.sem (OpSem.move (.inr rfl) rfl) rfl rfl (by decide) ?_
  refine TrOps.nil ?_
  refine At.seq ?_
  refine Tr.block ?_
  refine Tr.loop (X := Nat) (fun x => x ≤ nS a ∧ ∀ x' : Nat, x' < x → ∀ y : Nat, y < nS a → BPr a part x' y) (fun x => [(1, .d (ints part)), (2, .r 2 0), (5, I (x))]) (fun x => [(2, .box [I (a.states), I (a.labels), .d (arcsD a.arcs), I (a.init), .d (ints a.goals)])]) (fun x => nS a - x) 0 ⟨by omega, by simp⟩ ?_ ?_
  · exact .slot rfl (.refl _) <| .slot rfl (.refl _) <| .slot rfl (Le.of_eq (by simp)) <| .mem rfl <| .nil
  · rintro x ⟨hxl, hinx⟩
    refine Tr.seq ?_
    refine Tr.seq ?_
    refine Tr.region ?_
    refine TrOps.sem (OpSem.move (.inl rfl) rfl) rfl rfl (by decide) ?_
    refine TrOps.sem (OpSem.fieldr rfl rfl fo25_0) rfl rfl (by decide) ?_
    refine TrOps.sem (OpSem.loadb1 rfl rfl rfl vs3 rfl) rfl rfl (by decide) ?_
    refine TrOps.sem (OpSem.bin rfl rfl rfl blss) rfl rfl (by decide) ?_
    refine TrOps.nil ?_
    refine At.seq ?_
    refine Tr.cond rfl (fun c10 => ?_) (fun c10 => ?_)
    · have hx : x < nS a := by simp at c10; omega
      refine Tr.skip ?_
      refine At.seq ?_
      refine Tr.seq ?_
      refine Tr.block ?_
      refine Tr.seq ?_
      refine Tr.region ?_
      refine TrOps.sem (OpSem.move (.inr rfl) rfl) rfl rfl (by decide) ?_
      refine TrOps.nil ?_
      refine At.seq ?_
      refine Tr.block ?_
      refine Tr.loop (X := Nat) (fun y => y ≤ nS a ∧ ∀ y' : Nat, y' < y → BPr a part x y') (fun y => [(1, .d (ints part)), (2, .r 2 0), (5, I (x)), (6, I (y))]) (fun y => [(2, .box [I (a.states), I (a.labels), .d (arcsD a.arcs), I (a.init), .d (ints a.goals)])]) (fun y => nS a - y) 0 ⟨by omega, by simp⟩ ?_ ?_
      · exact .slot rfl (.refl _) <| .slot rfl (.refl _) <| .slot rfl (.refl _) <| .slot rfl (Le.of_eq (by simp)) <| .mem rfl <| .nil
      · rintro y ⟨hyl, hiny⟩
        refine Tr.seq ?_
        refine Tr.seq ?_
        refine Tr.region ?_
        refine TrOps.sem (OpSem.move (.inl rfl) rfl) rfl rfl (by decide) ?_
        refine TrOps.sem (OpSem.fieldr rfl rfl fo25_0) rfl rfl (by decide) ?_
        refine TrOps.sem (OpSem.loadb1 rfl rfl rfl vs3 rfl) rfl rfl (by decide) ?_
        refine TrOps.sem (OpSem.bin rfl rfl rfl blss) rfl rfl (by decide) ?_
        refine TrOps.nil ?_
        refine At.seq ?_
        refine Tr.cond rfl (fun c16 => ?_) (fun c16 => ?_)
        · have hy : y < nS a := by simp at c16; omega
          refine Tr.skip ?_
          refine At.seq ?_
          refine Tr.seq ?_
          refine Tr.block ?_
          refine Tr.seq ?_
          refine PC.start [] ?_
          refine PC.sem (OpSem.move (.inl rfl) rfl) rfl rfl ?_
          refine PC.sem (OpSem.move (.inl rfl) rfl) rfl rfl ?_
          refine PC.sem (OpSem.idxL rfl rfl rfl es23 (by omega) (by omega)) rfl rfl ?_
          refine PC.sem (OpSem.load1 rfl rfl vs3 rfl) rfl rfl ?_
          refine PC.sem (OpSem.move (.inl rfl) rfl) rfl rfl ?_
          refine PC.sem (OpSem.move (.inl rfl) rfl) rfl rfl ?_
          refine PC.sem (OpSem.idxL rfl rfl rfl es23 (by omega) (by omega)) rfl rfl ?_
          refine PC.sem (OpSem.load1 rfl rfl vs3 rfl) rfl rfl ?_
          refine PC.sem (OpSem.bin rfl rfl rfl beql) rfl rfl ?_
          refine PC.sem (OpSem.move (.inl rfl) rfl) rfl rfl ?_
          refine PC.split (n := 28) rfl (fun c28 => ?_) (fun c28 => ?_)
          · have he : nth part x = nth part y := by simpa using c28
            refine PC.gT (OpSem.fieldr rfl rfl fo25_4) rfl rfl rfl rfl c28 rfl ?_
            refine PC.gT (OpSem.loadb1 rfl rfl rfl vs23 rfl) rfl rfl rfl rfl c28 rfl ?_
            refine PC.gT (OpSem.move (.inl rfl) rfl) rfl rfl rfl rfl c28 rfl ?_
            refine PC.gT (OpSem.call0 (R_Has_does a.goals (x : Int)) rfl rfl rfl rfl (Les.refl _)) rfl rfl rfl rfl c28 rfl ?_
            refine PC.gT (OpSem.fieldr rfl rfl fo25_4) rfl rfl rfl rfl c28 rfl ?_
            refine PC.gT (OpSem.loadb1 rfl rfl rfl vs23 rfl) rfl rfl rfl rfl c28 rfl ?_
            refine PC.gT (OpSem.move (.inl rfl) rfl) rfl rfl rfl rfl c28 rfl ?_
            refine PC.gT (OpSem.call0 (R_Has_does a.goals (y : Int)) rfl rfl rfl rfl (Les.refl _)) rfl rfl rfl rfl c28 rfl ?_
            refine PC.gT (OpSem.neB rfl rfl rfl ub4) rfl rfl rfl rfl c28 rfl ?_
            refine PC.gT (OpSem.move (.inl rfl) rfl) rfl rfl rfl rfl c28 rfl ?_
            refine PC.split (n := 38) rfl (fun c38 => ?_) (fun c38 => ?_)
            · refine PC.gF rfl rfl rfl rfl c38 rfl ?_
              refine PC.gF rfl rfl rfl rfl c38 rfl ?_
              refine PC.gF rfl rfl rfl rfl c38 rfl ?_
              refine PC.gF rfl rfl rfl rfl c38 rfl ?_
              refine PC.done0 mixed (by kernel_rfl) (by kernel_rfl) (by kernel_rfl) (by kernel_rfl) (by kernel_rfl) ?_
              refine TrOps.gF rfl rfl rfl rfl c38 rfl (by decide) ?_
              refine TrOps.gF rfl rfl rfl rfl c38 rfl (by decide) ?_
              refine TrOps.gT rfl rfl rfl rfl c28 ?_
              refine TrOps.sem (OpSem.pickT rfl rfl c38 rfl) rfl rfl (by decide) ?_
              refine TrOps.sem (OpSem.pickT rfl rfl c28 rfl) rfl rfl (by decide) ?_
              refine TrOps.nil ?_
              refine At.seq ?_
              refine Tr.condT rfl rfl ?_
              refine Tr.seq ?_
              refine Tr.region ?_
              refine TrOps.sem (OpSem.move (.inr rfl) rfl) rfl rfl (by decide) ?_
              refine TrOps.nil ?_
              refine At.seq ?_
              refine Tr.ret ?_
              refine At.block_ret ?_
              refine At.pass_ret ?_
              refine At.pass_ret ?_
              refine At.block_ret ?_
              refine At.block_ret ?_
              refine At.pass_ret ?_
              refine At.pass_ret ?_
              refine At.block_ret ?_
              refine At.pass_ret ?_
              exact At.ret rfl (.tmp rfl <| .nil) rfl (Le.bo (decide_eq_false (fun h => by have q := h x hx y hy he; rw [q.1] at c38; simp at c38)).symm)
            · refine PC.gT (OpSem.loadbN rfl rfl rfl vs25 (by first | decide | simp)) rfl rfl rfl rfl c38 rfl ?_
              refine PC.gT (OpSem.move (.inl rfl) rfl) rfl rfl rfl rfl c38 rfl ?_
              refine PC.gT (OpSem.move (.inl rfl) rfl) rfl rfl rfl rfl c38 rfl ?_
              refine PC.gT (OpSem.move (.inl rfl) rfl) rfl rfl rfl rfl c38 rfl ?_
              refine PC.done0 mixed (by kernel_rfl) (by kernel_rfl) (by kernel_rfl) (by kernel_rfl) (by kernel_rfl) ?_
              refine TrOps.gT rfl rfl rfl rfl c38 ?_
              refine TrOps.sem (OpSem.call0 (Q_alike_does a part x y hA hp) rfl rfl rfl rfl (Les.refl _)) rfl rfl (by decide) ?_
              refine TrOps.gT rfl rfl rfl rfl c38 ?_
              refine TrOps.sem (OpSem.not rfl rfl) rfl rfl (by decide) ?_
              refine TrOps.gT rfl rfl rfl rfl c28 ?_
              refine TrOps.sem (OpSem.pickF rfl rfl c38 rfl) rfl rfl (by decide) ?_
              refine TrOps.sem (OpSem.pickT rfl rfl c28 rfl) rfl rfl (by decide) ?_
              refine TrOps.nil ?_
              refine At.seq ?_
              refine Tr.cond rfl (fun c46 => ?_) (fun c46 => ?_)
              · refine Tr.seq ?_
                refine Tr.region ?_
                refine TrOps.sem (OpSem.move (.inr rfl) rfl) rfl rfl (by decide) ?_
                refine TrOps.nil ?_
                refine At.seq ?_
                refine Tr.ret ?_
                refine At.block_ret ?_
                refine At.pass_ret ?_
                refine At.pass_ret ?_
                refine At.block_ret ?_
                refine At.block_ret ?_
                refine At.pass_ret ?_
                refine At.pass_ret ?_
                refine At.block_ret ?_
                refine At.pass_ret ?_
                exact At.ret rfl (.tmp rfl <| .nil) rfl (Le.bo (decide_eq_false (fun h => by have q := h x hx y hy he; simp [q.2] at c46)).symm)
              · have hb : BPr a part x y := fun _ => ⟨by simpa using c38, by simpa using c46⟩
                refine Tr.skip ?_
                refine At.block_normal ?_
                refine At.seq ?_
                refine Tr.region ?_
                refine TrOps.sem (OpSem.move (.inl rfl) rfl) rfl rfl (by decide) ?_
                refine TrOps.sem (OpSem.bin rfl rfl rfl (badd (by omega) (by omega))) rfl rfl (by decide) ?_
                refine TrOps.sem (OpSem.move (.inr rfl) rfl) rfl rfl (by decide) ?_
                refine TrOps.nil ?_
                refine At.again (y + 1) ⟨by omega, all_succ hiny hb⟩ ?_ (by omega)
                exact .slot rfl (.refl _) <| .slot rfl (.refl _) <| .slot rfl (.refl _) <| .slot rfl (Le.of_eq (by simp)) <| .mem rfl <| .nil
          · have hb : BPr a part x y := fun h => by simp [h] at c28
            refine PC.gF rfl rfl rfl rfl c28 rfl ?_
            refine PC.gF rfl rfl rfl rfl c28 rfl ?_
            refine PC.gF rfl rfl rfl rfl c28 rfl ?_
            refine PC.gF rfl rfl rfl rfl c28 rfl ?_
            refine PC.gF rfl rfl rfl rfl c28 rfl ?_
            refine PC.gF rfl rfl rfl rfl c28 rfl ?_
            refine PC.gF rfl rfl rfl rfl c28 rfl ?_
            refine PC.gF rfl rfl rfl rfl c28 rfl ?_
            refine PC.gF rfl rfl rfl rfl c28 rfl ?_
            refine PC.gF rfl rfl rfl rfl c28 rfl ?_
            refine PC.gU rfl rfl rfl rfl rfl ?_
            refine PC.gU rfl rfl rfl rfl rfl ?_
            refine PC.gU rfl rfl rfl rfl rfl ?_
            refine PC.gU rfl rfl rfl rfl rfl ?_
            refine PC.done0 mixed (by kernel_rfl) (by kernel_rfl) (by kernel_rfl) (by kernel_rfl) (by kernel_rfl) ?_
            refine TrOps.gU rfl rfl rfl rfl rfl (by decide) ?_
            refine TrOps.gU rfl rfl rfl rfl rfl (by decide) ?_
            refine TrOps.gF rfl rfl rfl rfl c28 rfl (by decide) ?_
            refine TrOps.sem (OpSem.pickF rfl rfl c28 rfl) rfl rfl (by decide) ?_
            refine TrOps.nil ?_
            refine At.seq ?_
            refine Tr.condF rfl rfl ?_
            refine Tr.skip ?_
            refine At.block_normal ?_
            refine At.seq ?_
            refine Tr.region ?_
            refine TrOps.sem (OpSem.move (.inl rfl) rfl) rfl rfl (by decide) ?_
            refine TrOps.sem (OpSem.bin rfl rfl rfl (badd (by omega) (by omega))) rfl rfl (by decide) ?_
            refine TrOps.sem (OpSem.move (.inr rfl) rfl) rfl rfl (by decide) ?_
            refine TrOps.nil ?_
            refine At.again (y + 1) ⟨by omega, all_succ hiny hb⟩ ?_ (by omega)
            exact .slot rfl (.refl _) <| .slot rfl (.refl _) <| .slot rfl (.refl _) <| .slot rfl (Le.of_eq (by simp)) <| .mem rfl <| .nil
        · have hy : y = nS a := by simp at c16; omega
          subst hy
          refine Tr.exit ?_
          refine At.pass_exit ?_
          refine At.pass_exit ?_
          refine At.block_same ?_
          refine At.block_normal ?_
          refine At.seq ?_
          refine Tr.region ?_
          refine TrOps.sem (OpSem.move (.inl rfl) rfl) rfl rfl (by decide) ?_
          refine TrOps.sem (OpSem.bin rfl rfl rfl (badd (by omega) (by omega))) rfl rfl (by decide) ?_
          refine TrOps.sem (OpSem.move (.inr rfl) rfl) rfl rfl (by decide) ?_
          refine TrOps.nil ?_
          refine At.again (x + 1) ⟨by omega, all_succ hinx hiny⟩ ?_ (by omega)
          exact .slot rfl (.refl _) <| .slot rfl (.refl _) <| .slot rfl (Le.of_eq (by simp)) <| .mem rfl <| .nil
    · have hx : x = nS a := by simp at c10; omega
      subst hx
      refine Tr.exit ?_
      refine At.pass_exit ?_
      refine At.pass_exit ?_
      refine At.block_same ?_
      refine At.seq ?_
      refine Tr.seq ?_
      refine Tr.region ?_
      refine TrOps.sem (OpSem.move (.inr rfl) rfl) rfl rfl (by decide) ?_
      refine TrOps.nil ?_
      refine At.seq ?_
      refine Tr.ret ?_
      exact At.ret rfl (.tmp rfl <| .nil) rfl (Le.bo (decide_eq_true hinx).symm)

theorem Q_Coarsest_does (a : Abs) (hA : AbsOk a) : DoesO Try.prog 15 [absS a] 1 3 (((bisL a).map fun n => [D.v (.int .i64 n)])) := by
  have hns := nS_eq hA
  have hal := hA.len
  have hst := hA.head.1
  have hpp := ixZ hA (u := 0) (v := 0) ⟨by omega, by omega⟩ ⟨by omega, by omega⟩
  have hnn : ((nS a * nS a : Nat) : Int) = a.states * a.states := by rw [Int.natCast_mul, hns.1]
  have hbl := bisL_len (a := a)
  refine DoesO.of_body Try.func15 rfl rfl (by simp) Try.call15 (fun w0 O0 => ?_)
  refine Tr.lenG (n := 0) (i := 2) rfl rfl (fun len0_2 => ?_)
  refine Tr.lenG (n := 0) (i := 4) rfl rfl (fun len0_4 => ?_)
  refine Tr.seq ?_
  refine Tr.region ?_
  refine TrOps.semM (OpSem.box 1 rfl rfl rfl rfl) rfl rfl (by decide) ?_
  refine TrOps.sem (OpSem.move (.inr rfl) rfl) rfl rfl (by decide) ?_
  refine TrOps.nil ?_
  refine At.seq ?_
  refine Tr.seq ?_
  refine Tr.region ?_
  refine TrOps.sem (OpSem.fieldr rfl rfl fo25_0) rfl rfl (by decide) ?_
  refine TrOps.sem (OpSem.loadb1 rfl rfl rfl vs3 rfl) rfl rfl (by decide) ?_
  refine TrOps.sem (OpSem.move (.inr rfl) rfl) rfl rfl (by decide) ?_
  refine TrOps.nil ?_
  refine At.seq ?_
  refine Tr.seq ?_
  refine Tr.region ?_
  refine TrOps.sem (OpSem.move (.inl rfl) rfl) rfl rfl (by decide) ?_
  refine TrOps.sem (OpSem.move (.inl rfl) rfl) rfl rfl (by decide) ?_
  refine TrOps.sem (OpSem.bin rfl rfl rfl (bmul (by omega) (by omega))) rfl rfl (by decide) ?_
  refine TrOps.semM (OpSem.makeSlice 23 rfl rfl rfl es59 ze59 rfl rfl (by decide) bye59 (by omega) (by omega) (by omega)) rfl rfl (by decide) ?_
  refine TrOps.sem (OpSem.move (.inr rfl) rfl) rfl rfl (by decide) ?_
  refine TrOps.nil ?_
  refine At.seq ?_
  refine Tr.seq ?_
  refine Tr.seq ?_
  refine Tr.region ?_
  refine TrOps.sem (OpSem.move (.inr rfl) rfl) rfl rfl (by decide) ?_
  refine TrOps.nil ?_
  refine At.seq ?_
  refine Tr.block ?_
  refine Tr.loop (X := Nat) (fun x => x ≤ nS a) (fun x => [(1, .r 1 0), (3, I (a.states)), (4, .o 23), (5, I (x))]) (fun x => [(23, .own 1 4 ((dfTo a (x * nS a)).map fun b => [D.v (.bool b)])), (1, .box [I (a.states), I (a.labels), .d (arcsD a.arcs), I (a.init), .d (ints a.goals)])]) (fun x => nS a - x) 0 (by omega) ?_ ?_
  · exact .slot rfl (.refl _) <| .slot rfl (.refl _) <| .slot rfl (.refl _) <| .slot rfl (Le.of_eq (by simp)) <| .memEq rfl (by rw [Nat.zero_mul, dfTo_0, el59, ← hnn, Int.toNat_natCast]; simp) <| .mem rfl <| .nil
  · rintro x hxl
    refine Tr.seq ?_
    refine Tr.seq ?_
    refine Tr.region ?_
    refine TrOps.sem (OpSem.move (.inl rfl) rfl) rfl rfl (by decide) ?_
    refine TrOps.sem (OpSem.move (.inl rfl) rfl) rfl rfl (by decide) ?_
    refine TrOps.sem (OpSem.bin rfl rfl rfl blss) rfl rfl (by decide) ?_
    refine TrOps.nil ?_
    refine At.seq ?_
    refine Tr.cond rfl (fun c26 => ?_) (fun c26 => ?_)
    · have hx : x < nS a := by simp at c26; omega
      refine Tr.skip ?_
      refine At.seq ?_
      refine Tr.seq ?_
      refine Tr.block ?_
      refine Tr.seq ?_
      refine Tr.region ?_
      refine TrOps.sem (OpSem.move (.inr rfl) rfl) rfl rfl (by decide) ?_
      refine TrOps.nil ?_
      refine At.seq ?_
      refine Tr.block ?_
      refine Tr.loop (X := Nat) (fun y => y ≤ nS a) (fun y => [(1, .r 1 0), (3, I (a.states)), (4, .o 23), (5, I (x)), (6, I (y))]) (fun y => [(23, .own 1 4 ((dfTo a (x * nS a + y)).map fun b => [D.v (.bool b)])), (1, .box [I (a.states), I (a.labels), .d (arcsD a.arcs), I (a.init), .d (ints a.goals)])]) (fun y => nS a - y) 0 (by omega) ?_ ?_
      · exact .slot rfl (.refl _) <| .slot rfl (.refl _) <| .slot rfl (.refl _) <| .slot rfl (.refl _) <| .slot rfl (Le.of_eq (by simp)) <| .memEq rfl rfl <| .mem rfl <| .nil
      · rintro y hyl
        refine Tr.seq ?_
        refine Tr.seq ?_
        refine Tr.region ?_
        refine TrOps.sem (OpSem.move (.inl rfl) rfl) rfl rfl (by decide) ?_
        refine TrOps.sem (OpSem.move (.inl rfl) rfl) rfl rfl (by decide) ?_
        refine TrOps.sem (OpSem.bin rfl rfl rfl blss) rfl rfl (by decide) ?_
        refine TrOps.nil ?_
        refine At.seq ?_
        refine Tr.cond rfl (fun c31 => ?_) (fun c31 => ?_)
        · have hy : y < nS a := by simp at c31; omega
          have hix := ixZ hA (u := x) (v := y) ⟨by omega, by omega⟩ ⟨by omega, by omega⟩
          refine Tr.skip ?_
          refine At.seq ?_
          refine Tr.seq ?_
          refine Tr.block ?_
          refine PC.start [] ?_
          refine PC.sem (OpSem.move (.inl rfl) rfl) rfl rfl ?_
          refine PC.sem (OpSem.move (.inl rfl) rfl) rfl rfl ?_
          refine PC.sem (OpSem.move (.inl rfl) rfl) rfl rfl ?_
          refine PC.sem (OpSem.bin rfl rfl rfl (bmul (by omega) (by omega))) rfl rfl ?_
          refine PC.sem (OpSem.move (.inl rfl) rfl) rfl rfl ?_
          refine PC.sem (OpSem.bin rfl rfl rfl (badd (by omega) (by omega))) rfl rfl ?_
          refine PC.sem (OpSem.fieldr rfl rfl fo25_4) rfl rfl ?_
          refine PC.sem (OpSem.loadb1 rfl rfl rfl vs23 rfl) rfl rfl ?_
          refine PC.sem (OpSem.move (.inl rfl) rfl) rfl rfl ?_
          refine PC.sem (OpSem.call0 (R_Has_does a.goals (x : Int)) rfl rfl rfl rfl (Les.refl _)) rfl rfl ?_
          refine PC.sem (OpSem.fieldr rfl rfl fo25_4) rfl rfl ?_
          refine PC.sem (OpSem.loadb1 rfl rfl rfl vs23 rfl) rfl rfl ?_
          refine PC.sem (OpSem.move (.inl rfl) rfl) rfl rfl ?_
          refine PC.sem (OpSem.call0 (R_Has_does a.goals (y : Int)) rfl rfl rfl rfl (Les.refl _)) rfl rfl ?_
          refine PC.sem (OpSem.neB rfl rfl rfl ub4) rfl rfl ?_
          refine PC.done0 mixed (by kernel_rfl) (by kernel_rfl) (by kernel_rfl) (by kernel_rfl) (by kernel_rfl) ?_
          refine TrOps.sem (OpSem.idxo rfl rfl rfl rfl es59 (by omega) (by simp [dfTo_len]; omega)) rfl rfl (by decide) ?_
          refine TrOps.storeq rfl rfl rfl rfl rfl rfl rfl vs4 (rows_get (by omega) (by rw [dfTo_len]; omega)) (by simp) ?_
          refine TrOps.nil ?_
          refine At.block_normal ?_
          refine At.seq ?_
          refine Tr.region ?_
          refine TrOps.sem (OpSem.move (.inl rfl) rfl) rfl rfl (by decide) ?_
          refine TrOps.sem (OpSem.bin rfl rfl rfl (badd (by omega) (by omega))) rfl rfl (by decide) ?_
          refine TrOps.sem (OpSem.move (.inr rfl) rfl) rfl rfl (by decide) ?_
          refine TrOps.nil ?_
          refine At.again (y + 1) (by omega) ?_ (by omega)
          exact .slot rfl (.refl _) <| .slot rfl (.refl _) <| .slot rfl (.refl _) <| .slot rfl (.refl _) <| .slot rfl (Le.of_eq (by simp)) <| .memEq rfl (by rw [← dfTo_s hA hx hy]; exact congrArg (Mo.own 1 4) (rows_set (f := fun b => [D.v (.bool b)]))) <| .mem rfl <| .nil
        · have hy : y = nS a := by simp at c31; omega
          subst hy
          refine Tr.exit ?_
          refine At.pass_exit ?_
          refine At.pass_exit ?_
          refine At.block_same ?_
          refine At.block_normal ?_
          refine At.seq ?_
          refine Tr.region ?_
          refine TrOps.sem (OpSem.move (.inl rfl) rfl) rfl rfl (by decide) ?_
          refine TrOps.sem (OpSem.bin rfl rfl rfl (badd (by omega) (by omega))) rfl rfl (by decide) ?_
          refine TrOps.sem (OpSem.move (.inr rfl) rfl) rfl rfl (by decide) ?_
          refine TrOps.nil ?_
          refine At.again (x + 1) (by omega) ?_ (by omega)
          exact .slot rfl (.refl _) <| .slot rfl (.refl _) <| .slot rfl (.refl _) <| .slot rfl (Le.of_eq (by simp)) <| .memEq rfl (by rw [Nat.succ_mul]) <| .mem rfl <| .nil
    · have hx : x = nS a := by simp at c26; omega
      subst hx
      refine Tr.exit ?_
      refine At.pass_exit ?_
      refine At.pass_exit ?_
      refine At.block_same ?_
      refine At.seq ?_
      refine Tr.seq ?_
      refine Tr.seq ?_
      refine Tr.region ?_
      refine TrOps.sem (OpSem.move (.inr rfl) rfl) rfl rfl (by decide) ?_
      refine TrOps.nil ?_
      refine At.seq ?_
      refine Tr.block ?_
      refine Tr.loop (X := (List Bool × Bool)) (fun s => MInv a s) (fun s => [(1, .r 1 0), (3, I (a.states)), (4, .o 23), (7, Bo (s.2))]) (fun s => [(23, .own 1 4 (s.1.map fun b => [D.v (.bool b)])), (1, .box [I (a.states), I (a.labels), .d (arcsD a.arcs), I (a.init), .d (ints a.goals)])]) (fun s => mMu s) (dfTo a (nS a * nS a), true) ⟨dfTo_inv hA, fun h => nomatch h⟩ ?_ ?_
      · exact .slot rfl (.refl _) <| .slot rfl (.refl _) <| .slot rfl (.refl _) <| .slot rfl (.refl _) <| .memEq rfl rfl <| .mem rfl <| .nil
      · rintro s hinv
        refine Tr.seq ?_
        refine Tr.seq ?_
        refine Tr.region ?_
        refine TrOps.sem (OpSem.move (.inl rfl) rfl) rfl rfl (by decide) ?_
        refine TrOps.nil ?_
        refine At.seq ?_
        refine Tr.cond rfl (fun c50 => ?_) (fun c50 => ?_)
        · have hs2 : s.2 = true := c50
          have hse : (s.1, true) = s := by rw [← hs2]
          refine Tr.skip ?_
          refine At.seq ?_
          refine Tr.block ?_
          refine Tr.seq ?_
          refine Tr.region ?_
          refine TrOps.sem (OpSem.move (.inr rfl) rfl) rfl rfl (by decide) ?_
          refine TrOps.nil ?_
          refine At.seq ?_
          refine Tr.seq ?_
          refine Tr.region ?_
          refine TrOps.sem (OpSem.move (.inr rfl) rfl) rfl rfl (by decide) ?_
          refine TrOps.nil ?_
          refine At.seq ?_
          refine Tr.block ?_
          refine Tr.loop (X := Nat) (fun x => x ≤ nS a) (fun x => [(1, .r 1 0), (3, I (a.states)), (4, .o 23), (7, Bo ((passX a (s.1, false) x).2)), (8, I (x))]) (fun x => [(23, .own 1 4 (((passX a (s.1, false) x).1).map fun b => [D.v (.bool b)])), (1, .box [I (a.states), I (a.labels), .d (arcsD a.arcs), I (a.init), .d (ints a.goals)])]) (fun x => nS a - x) 0 (by omega) ?_ ?_
          · exact .slot rfl (.refl _) <| .slot rfl (.refl _) <| .slot rfl (.refl _) <| .slot rfl (Le.bo rfl) <| .slot rfl (Le.of_eq (by simp)) <| .memEq rfl rfl <| .mem rfl <| .nil
          · rintro x hxl
            refine Tr.seq ?_
            refine Tr.seq ?_
            refine Tr.region ?_
            refine TrOps.sem (OpSem.move (.inl rfl) rfl) rfl rfl (by decide) ?_
            refine TrOps.sem (OpSem.move (.inl rfl) rfl) rfl rfl (by decide) ?_
            refine TrOps.sem (OpSem.bin rfl rfl rfl blss) rfl rfl (by decide) ?_
            refine TrOps.nil ?_
            refine At.seq ?_
            refine Tr.cond rfl (fun c53 => ?_) (fun c53 => ?_)
            · have hx : x < nS a := by simp at c53; omega
              have hPX := (passX_inv hA (s := (s.1, false)) hinv.1 (k := x) (by omega)).1
              refine Tr.skip ?_
              refine At.seq ?_
              refine Tr.seq ?_
              refine Tr.block ?_
              refine Tr.seq ?_
              refine Tr.region ?_
              refine TrOps.sem (OpSem.move (.inr rfl) rfl) rfl rfl (by decide) ?_
              refine TrOps.nil ?_
              refine At.seq ?_
              refine Tr.block ?_
              refine Tr.loop (X := Nat) (fun y => y ≤ nS a) (fun y => [(1, .r 1 0), (3, I (a.states)), (4, .o 23), (7, Bo ((passY a x (passX a (s.1, false) x) y).2)), (8, I (x)), (9, I (y))]) (fun y => [(23, .own 1 4 (((passY a x (passX a (s.1, false) x) y).1).map fun b => [D.v (.bool b)])), (1, .box [I (a.states), I (a.labels), .d (arcsD a.arcs), I (a.init), .d (ints a.goals)])]) (fun y => nS a - y) 0 (by omega) ?_ ?_
              · exact .slot rfl (.refl _) <| .slot rfl (.refl _) <| .slot rfl (.refl _) <| .slot rfl (Le.bo rfl) <| .slot rfl (.refl _) <| .slot rfl (Le.of_eq (by simp)) <| .memEq rfl rfl <| .mem rfl <| .nil
              · rintro y hyl
                refine Tr.seq ?_
                refine Tr.seq ?_
                refine Tr.region ?_
                refine TrOps.sem (OpSem.move (.inl rfl) rfl) rfl rfl (by decide) ?_
                refine TrOps.sem (OpSem.move (.inl rfl) rfl) rfl rfl (by decide) ?_
                refine TrOps.sem (OpSem.bin rfl rfl rfl blss) rfl rfl (by decide) ?_
                refine TrOps.nil ?_
                refine At.seq ?_
                refine Tr.cond rfl (fun c58 => ?_) (fun c58 => ?_)
                · have hy : y < nS a := by simp at c58; omega
                  have hPY := (passY_inv hA hx hPX (k := y) (by omega)).1
                  have hix := ixZ hA (u := x) (v := y) ⟨by omega, by omega⟩ ⟨by omega, by omega⟩
                  have hiy := ixZ hA (u := y) (v := x) ⟨by omega, by omega⟩ ⟨by omega, by omega⟩
                  refine Tr.skip ?_
                  refine At.seq ?_
                  refine Tr.seq ?_
                  refine Tr.block ?_
                  refine Tr.seq ?_
                  refine Tr.region ?_
                  refine TrOps.sem (OpSem.move (.inr rfl) rfl) rfl rfl (by decide) ?_
                  refine TrOps.nil ?_
                  refine At.seq ?_
                  refine Tr.block ?_
                  refine Tr.loop (X := Nat) (fun i => i ≤ a.arcs.length) (fun i => [(1, .r 1 0), (3, I (a.states)), (4, .o 23), (7, Bo ((passI a x y (passY a x (passX a (s.1, false) x) y) i).2)), (8, I (x)), (9, I (y)), (10, I (i))]) (fun i => [(23, .own 1 4 (((passI a x y (passY a x (passX a (s.1, false) x) y) i).1).map fun b => [D.v (.bool b)])), (1, .box [I (a.states), I (a.labels), .d (arcsD a.arcs), I (a.init), .d (ints a.goals)])]) (fun i => a.arcs.length - i) 0 (by omega) ?_ ?_
                  · exact .slot rfl (.refl _) <| .slot rfl (.refl _) <| .slot rfl (.refl _) <| .slot rfl (Le.bo rfl) <| .slot rfl (.refl _) <| .slot rfl (.refl _) <| .slot rfl (Le.of_eq (by simp)) <| .memEq rfl rfl <| .mem rfl <| .nil
                  · rintro i hil
                    refine Tr.seq ?_
                    refine Tr.seq ?_
                    refine Tr.region ?_
                    refine TrOps.sem (OpSem.move (.inl rfl) rfl) rfl rfl (by decide) ?_
                    refine TrOps.sem (OpSem.fieldr rfl rfl fo25_2) rfl rfl (by decide) ?_
                    refine TrOps.sem (OpSem.loadb1 rfl rfl rfl vs22 rfl) rfl rfl (by decide) ?_
                    refine TrOps.sem (OpSem.lenL rfl rfl es22) rfl rfl (by decide) ?_
                    refine TrOps.sem (OpSem.bin rfl rfl rfl blss) rfl rfl (by decide) ?_
                    refine TrOps.sem (OpSem.move (.inl rfl) rfl) rfl rfl (by decide) ?_
                    refine TrOps.split (n := 66) rfl (fun c66 => ?_) (fun c66 => ?_)
                    · have hi : i < a.arcs.length := by simpa using c66
                      have hPI := (passI_inv hA hx hy hPY (k := i) (by omega)).1
                      have hdl := hPI.len
                      refine TrOps.gT rfl rfl rfl rfl c66 ?_
                      refine TrOps.sem (OpSem.move (.inl rfl) rfl) rfl rfl (by decide) ?_
                      refine TrOps.gT rfl rfl rfl rfl c66 ?_
                      refine TrOps.sem (OpSem.move (.inl rfl) rfl) rfl rfl (by decide) ?_
                      refine TrOps.gT rfl rfl rfl rfl c66 ?_
                      refine TrOps.sem (OpSem.move (.inl rfl) rfl) rfl rfl (by decide) ?_
                      refine TrOps.gT rfl rfl rfl rfl c66 ?_
                      refine TrOps.sem (OpSem.bin rfl rfl rfl (bmul (by omega) (by omega))) rfl rfl (by decide) ?_
                      refine TrOps.gT rfl rfl rfl rfl c66 ?_
                      refine TrOps.sem (OpSem.move (.inl rfl) rfl) rfl rfl (by decide) ?_
                      refine TrOps.gT rfl rfl rfl rfl c66 ?_
                      refine TrOps.sem (OpSem.bin rfl rfl rfl (badd (by omega) (by omega))) rfl rfl (by decide) ?_
                      refine TrOps.gT rfl rfl rfl rfl c66 ?_
                      refine TrOps.sem (OpSem.idxo rfl rfl rfl rfl es59 (by omega) (by simp; omega)) rfl rfl (by decide) ?_
                      refine TrOps.gT rfl rfl rfl rfl c66 ?_
                      refine TrOps.sem (OpSem.loadq rfl rfl rfl vs4 (rows_get (by omega) (by omega)) rfl) rfl rfl (by decide) ?_
                      refine TrOps.gT rfl rfl rfl rfl c66 ?_
                      refine TrOps.sem (OpSem.not rfl rfl) rfl rfl (by decide) ?_
                      refine TrOps.sem (OpSem.pickT rfl rfl c66 rfl) rfl rfl (by decide) ?_
                      refine TrOps.nil ?_
                      refine At.seq ?_
                      refine Tr.cond rfl (fun c76 => ?_) (fun c76 => ?_)
                      · have hd : ¬ dt a (passI a x y (passY a x (passX a (s.1, false) x) y) i).1 x y = true := by simpa [dt] using c76
                        refine Tr.skip ?_
                        refine At.seq ?_
                        refine Tr.seq ?_
                        refine Tr.block ?_
                        refine Tr.seq ?_
                        refine Tr.seq ?_
                        refine Tr.region ?_
                        refine TrOps.sem (OpSem.fieldr rfl rfl fo25_2) rfl rfl (by decide) ?_
                        refine TrOps.sem (OpSem.loadb1 rfl rfl rfl vs22 rfl) rfl rfl (by decide) ?_
                        refine TrOps.sem (OpSem.move (.inl rfl) rfl) rfl rfl (by decide) ?_
                        refine TrOps.sem (OpSem.idxL rfl rfl rfl es22 (by omega) (by omega)) rfl rfl (by decide) ?_
                        refine TrOps.sem (OpSem.fieldp rfl rfl fo57_0) rfl rfl (by decide) ?_
                        refine TrOps.sem (OpSem.load1 rfl rfl vs3 rfl) rfl rfl (by decide) ?_
                        refine TrOps.sem (OpSem.move (.inl rfl) rfl) rfl rfl (by decide) ?_
                        refine TrOps.sem (OpSem.bin rfl rfl rfl bneq) rfl rfl (by decide) ?_
                        refine TrOps.nil ?_
                        refine At.seq ?_
                        refine Tr.cond rfl (fun c86 => ?_) (fun c86 => ?_)
                        · have hfx : (nth a.arcs i).fr ≠ x := by simpa using c86
                          have hstp : passI a x y (passY a x (passX a (s.1, false) x) y) (i + 1) = (passI a x y (passY a x (passX a (s.1, false) x) y) i) := by show stI a x y (passI a x y (passY a x (passX a (s.1, false) x) y) i) i = _; unfold stI; rw [if_neg hd, if_pos hfx]
                          refine Tr.exit ?_
                          refine At.pass_exit ?_
                          refine At.block_same ?_
                          refine At.seq ?_
                          refine Tr.region ?_
                          refine TrOps.sem (OpSem.move (.inl rfl) rfl) rfl rfl (by decide) ?_
                          refine TrOps.sem (OpSem.bin rfl rfl rfl (badd (by omega) (by omega))) rfl rfl (by decide) ?_
                          refine TrOps.sem (OpSem.move (.inr rfl) rfl) rfl rfl (by decide) ?_
                          refine TrOps.nil ?_
                          refine At.again (i + 1) (by omega) ?_ (by omega)
                          exact .slot rfl (.refl _) <| .slot rfl (.refl _) <| .slot rfl (.refl _) <| .slot rfl (Le.bo (by rw [hstp])) <| .slot rfl (.refl _) <| .slot rfl (.refl _) <| .slot rfl (Le.of_eq (by simp)) <| .memEq rfl (by rw [hstp]) <| .mem rfl <| .nil
                        · have hfx : (nth a.arcs i).fr = x := by simpa using c86
                          have harc := hA.arc i hi
                          refine Tr.skip ?_
                          refine At.seq ?_
                          refine Tr.seq ?_
                          refine Tr.region ?_
                          refine TrOps.sem (OpSem.move (.inr rfl) rfl) rfl rfl (by decide) ?_
                          refine TrOps.nil ?_
                          refine At.seq ?_
                          refine Tr.seq ?_
                          refine Tr.seq ?_
                          refine Tr.region ?_
                          refine TrOps.sem (OpSem.move (.inr rfl) rfl) rfl rfl (by decide) ?_
                          refine TrOps.nil ?_
                          refine At.seq ?_
                          refine Tr.block ?_
                          refine Tr.loop (X := Nat) (fun k => k ≤ a.arcs.length) (fun k => [(1, .r 1 0), (3, I (a.states)), (4, .o 23), (7, Bo ((passI a x y (passY a x (passX a (s.1, false) x) y) i).2)), (8, I (x)), (9, I (y)), (10, I (i)), (11, Bo (mtF (ndt a (passI a x y (passY a x (passX a (s.1, false) x) y) i).1) a y i k)), (12, I (k))]) (fun k => [(23, .own 1 4 (((passI a x y (passY a x (passX a (s.1, false) x) y) i).1).map fun b => [D.v (.bool b)])), (1, .box [I (a.states), I (a.labels), .d (arcsD a.arcs), I (a.init), .d (ints a.goals)])]) (fun k => a.arcs.length - k) 0 (by omega) ?_ ?_
                          · exact .slot rfl (.refl _) <| .slot rfl (.refl _) <| .slot rfl (.refl _) <| .slot rfl (.refl _) <| .slot rfl (.refl _) <| .slot rfl (.refl _) <| .slot rfl (.refl _) <| .slot rfl (Le.bo rfl) <| .slot rfl (Le.of_eq (by simp)) <| .memEq rfl rfl <| .mem rfl <| .nil
                          · rintro k hkl
                            refine Tr.seq ?_
                            refine Tr.seq ?_
                            refine Tr.region ?_
                            refine TrOps.sem (OpSem.move (.inl rfl) rfl) rfl rfl (by decide) ?_
                            refine TrOps.sem (OpSem.fieldr rfl rfl fo25_2) rfl rfl (by decide) ?_
                            refine TrOps.sem (OpSem.loadb1 rfl rfl rfl vs22 rfl) rfl rfl (by decide) ?_
                            refine TrOps.sem (OpSem.lenL rfl rfl es22) rfl rfl (by decide) ?_
                            refine TrOps.sem (OpSem.bin rfl rfl rfl blss) rfl rfl (by decide) ?_
                            refine TrOps.nil ?_
                            refine At.seq ?_
                            refine Tr.cond rfl (fun c91 => ?_) (fun c91 => ?_)
                            · have hk : k < a.arcs.length := by simpa using c91
                              have hkr := hA.arc k hk
                              have hit := ixZ hA harc.2.2 hkr.2.2
                              refine Tr.skip ?_
                              refine At.seq ?_
                              refine Tr.seq ?_
                              refine Tr.block ?_
                              refine Tr.seq ?_
                              refine PC.start [] ?_
                              refine PC.sem (OpSem.fieldr rfl rfl fo25_2) rfl rfl ?_
                              refine PC.sem (OpSem.loadb1 rfl rfl rfl vs22 rfl) rfl rfl ?_
                              refine PC.sem (OpSem.move (.inl rfl) rfl) rfl rfl ?_
                              refine PC.sem (OpSem.idxL rfl rfl rfl es22 (by omega) (by omega)) rfl rfl ?_
                              refine PC.sem (OpSem.fieldp rfl rfl fo57_0) rfl rfl ?_
                              refine PC.sem (OpSem.load1 rfl rfl vs3 rfl) rfl rfl ?_
                              refine PC.sem (OpSem.move (.inl rfl) rfl) rfl rfl ?_
                              refine PC.sem (OpSem.bin rfl rfl rfl beql) rfl rfl ?_
                              refine PC.sem (OpSem.move (.inl rfl) rfl) rfl rfl ?_
                              refine PC.split (n := 102) rfl (fun c102 => ?_) (fun c102 => ?_)
                              · refine PC.gT (OpSem.fieldr rfl rfl fo25_2) rfl rfl rfl rfl c102 rfl ?_
                                refine PC.gT (OpSem.loadb1 rfl rfl rfl vs22 rfl) rfl rfl rfl rfl c102 rfl ?_
                                refine PC.gT (OpSem.move (.inl rfl) rfl) rfl rfl rfl rfl c102 rfl ?_
                                refine PC.gT (OpSem.idxL rfl rfl rfl es22 (by omega) (by omega)) rfl rfl rfl rfl c102 rfl ?_
                                refine PC.gT (OpSem.fieldp rfl rfl fo57_1) rfl rfl rfl rfl c102 rfl ?_
                                refine PC.gT (OpSem.load1 rfl rfl vs3 rfl) rfl rfl rfl rfl c102 rfl ?_
                                refine PC.gT (OpSem.fieldr rfl rfl fo25_2) rfl rfl rfl rfl c102 rfl ?_
                                refine PC.gT (OpSem.loadb1 rfl rfl rfl vs22 rfl) rfl rfl rfl rfl c102 rfl ?_
                                refine PC.gT (OpSem.move (.inl rfl) rfl) rfl rfl rfl rfl c102 rfl ?_
                                refine PC.gT (OpSem.idxL rfl rfl rfl es22 (by omega) (by omega)) rfl rfl rfl rfl c102 rfl ?_
                                refine PC.gT (OpSem.fieldp rfl rfl fo57_1) rfl rfl rfl rfl c102 rfl ?_
                                refine PC.gT (OpSem.load1 rfl rfl vs3 rfl) rfl rfl rfl rfl c102 rfl ?_
                                refine PC.gT (OpSem.bin rfl rfl rfl beql) rfl rfl rfl rfl c102 rfl ?_
                                refine PC.sem (OpSem.pickT rfl rfl c102 rfl) rfl rfl ?_
                                refine PC.sem (OpSem.move (.inl rfl) rfl) rfl rfl ?_
                                refine PC.split (n := 117) rfl (fun c117 => ?_) (fun c117 => ?_)
                                · refine PC.gT (OpSem.move (.inl rfl) rfl) rfl rfl rfl rfl c117 rfl ?_
                                  refine PC.gT (OpSem.fieldr rfl rfl fo25_2) rfl rfl rfl rfl c117 rfl ?_
                                  refine PC.gT (OpSem.loadb1 rfl rfl rfl vs22 rfl) rfl rfl rfl rfl c117 rfl ?_
                                  refine PC.gT (OpSem.move (.inl rfl) rfl) rfl rfl rfl rfl c117 rfl ?_
                                  refine PC.gT (OpSem.idxL rfl rfl rfl es22 (by omega) (by omega)) rfl rfl rfl rfl c117 rfl ?_
                                  refine PC.gT (OpSem.fieldp rfl rfl fo57_2) rfl rfl rfl rfl c117 rfl ?_
                                  refine PC.gT (OpSem.load1 rfl rfl vs3 rfl) rfl rfl rfl rfl c117 rfl ?_
                                  refine PC.gT (OpSem.move (.inl rfl) rfl) rfl rfl rfl rfl c117 rfl ?_
                                  refine PC.gT (OpSem.bin rfl rfl rfl (bmul (by omega) (by omega))) rfl rfl rfl rfl c117 rfl ?_
                                  refine PC.gT (OpSem.fieldr rfl rfl fo25_2) rfl rfl rfl rfl c117 rfl ?_
                                  refine PC.gT (OpSem.loadb1 rfl rfl rfl vs22 rfl) rfl rfl rfl rfl c117 rfl ?_
                                  refine PC.gT (OpSem.move (.inl rfl) rfl) rfl rfl rfl rfl c117 rfl ?_
                                  refine PC.gT (OpSem.idxL rfl rfl rfl es22 (by omega) (by omega)) rfl rfl rfl rfl c117 rfl ?_
                                  refine PC.gT (OpSem.fieldp rfl rfl fo57_2) rfl rfl rfl rfl c117 rfl ?_
                                  refine PC.gT (OpSem.load1 rfl rfl vs3 rfl) rfl rfl rfl rfl c117 rfl ?_
                                  refine PC.gT (OpSem.bin rfl rfl rfl (badd (by omega) (by omega))) rfl rfl rfl rfl c117 rfl ?_
                                  refine PC.gT (OpSem.idxo rfl rfl rfl rfl es59 (by omega) (by simp; omega)) rfl rfl rfl rfl c117 rfl ?_
                                  refine PC.gT (OpSem.loadq rfl rfl rfl vs4 (rows_get (by omega) (by omega)) rfl) rfl rfl rfl rfl c117 rfl ?_
                                  refine PC.gT (OpSem.not rfl rfl) rfl rfl rfl rfl c117 rfl ?_
                                  refine PC.sem (OpSem.pickT rfl rfl c117 rfl) rfl rfl ?_
                                  refine PC.done0 mixed (by kernel_rfl) (by kernel_rfl) (by kernel_rfl) (by kernel_rfl) (by kernel_rfl) ?_
                                  refine TrOps.nil ?_
                                  refine At.seq ?_
                                  refine Tr.cond rfl (fun c137 => ?_) (fun c137 => ?_)
                                  · refine Tr.region ?_
                                    refine TrOps.sem (OpSem.move (.inr rfl) rfl) rfl rfl (by decide) ?_
                                    refine TrOps.nil ?_
                                    refine At.block_normal ?_
                                    refine At.seq ?_
                                    refine Tr.region ?_
                                    refine TrOps.sem (OpSem.move (.inl rfl) rfl) rfl rfl (by decide) ?_
                                    refine TrOps.sem (OpSem.bin rfl rfl rfl (badd (by omega) (by omega))) rfl rfl (by decide) ?_
                                    refine TrOps.sem (OpSem.move (.inr rfl) rfl) rfl rfl (by decide) ?_
                                    refine TrOps.nil ?_
                                    refine At.again (k + 1) (by omega) ?_ (by omega)
                                    exact .slot rfl (.refl _) <| .slot rfl (.refl _) <| .slot rfl (.refl _) <| .slot rfl (.refl _) <| .slot rfl (.refl _) <| .slot rfl (.refl _) <| .slot rfl (.refl _) <| .slot rfl (Le.bo (by simp only [mtF, ndt, dt]; simp_all)) <| .slot rfl (Le.of_eq (by simp)) <| .memEq rfl rfl <| .mem rfl <| .nil
                                  · refine Tr.skip ?_
                                    refine At.block_normal ?_
                                    refine At.seq ?_
                                    refine Tr.region ?_
                                    refine TrOps.sem (OpSem.move (.inl rfl) rfl) rfl rfl (by decide) ?_
                                    refine TrOps.sem (OpSem.bin rfl rfl rfl (badd (by omega) (by omega))) rfl rfl (by decide) ?_
                                    refine TrOps.sem (OpSem.move (.inr rfl) rfl) rfl rfl (by decide) ?_
                                    refine TrOps.nil ?_
                                    refine At.again (k + 1) (by omega) ?_ (by omega)
                                    exact .slot rfl (.refl _) <| .slot rfl (.refl _) <| .slot rfl (.refl _) <| .slot rfl (.refl _) <| .slot rfl (.refl _) <| .slot rfl (.refl _) <| .slot rfl (.refl _) <| .slot rfl (Le.bo (by simp only [mtF, ndt, dt]; simp_all)) <| .slot rfl (Le.of_eq (by simp)) <| .memEq rfl rfl <| .mem rfl <| .nil
                                · refine PC.gF rfl rfl rfl rfl c117 rfl ?_
                                  refine PC.gF rfl rfl rfl rfl c117 rfl ?_
                                  refine PC.gF rfl rfl rfl rfl c117 rfl ?_
                                  refine PC.gF rfl rfl rfl rfl c117 rfl ?_
                                  refine PC.gF rfl rfl rfl rfl c117 rfl ?_
                                  refine PC.gF rfl rfl rfl rfl c117 rfl ?_
                                  refine PC.gF rfl rfl rfl rfl c117 rfl ?_
                                  refine PC.gF rfl rfl rfl rfl c117 rfl ?_
                                  refine PC.gF rfl rfl rfl rfl c117 rfl ?_
                                  refine PC.gF rfl rfl rfl rfl c117 rfl ?_
                                  refine PC.gF rfl rfl rfl rfl c117 rfl ?_
                                  refine PC.gF rfl rfl rfl rfl c117 rfl ?_
                                  refine PC.gF rfl rfl rfl rfl c117 rfl ?_
                                  refine PC.gF rfl rfl rfl rfl c117 rfl ?_
                                  refine PC.gF rfl rfl rfl rfl c117 rfl ?_
                                  refine PC.gF rfl rfl rfl rfl c117 rfl ?_
                                  refine PC.gF rfl rfl rfl rfl c117 rfl ?_
                                  refine PC.gF rfl rfl rfl rfl c117 rfl ?_
                                  refine PC.gF rfl rfl rfl rfl c117 rfl ?_
                                  refine PC.sem (OpSem.pickF rfl rfl c117 rfl) rfl rfl ?_
                                  refine PC.done0 mixed (by kernel_rfl) (by kernel_rfl) (by kernel_rfl) (by kernel_rfl) (by kernel_rfl) ?_
                                  refine TrOps.nil ?_
                                  refine At.seq ?_
                                  refine Tr.condF rfl rfl ?_
                                  refine Tr.skip ?_
                                  refine At.block_normal ?_
                                  refine At.seq ?_
                                  refine Tr.region ?_
                                  refine TrOps.sem (OpSem.move (.inl rfl) rfl) rfl rfl (by decide) ?_
                                  refine TrOps.sem (OpSem.bin rfl rfl rfl (badd (by omega) (by omega))) rfl rfl (by decide) ?_
                                  refine TrOps.sem (OpSem.move (.inr rfl) rfl) rfl rfl (by decide) ?_
                                  refine TrOps.nil ?_
                                  refine At.again (k + 1) (by omega) ?_ (by omega)
                                  exact .slot rfl (.refl _) <| .slot rfl (.refl _) <| .slot rfl (.refl _) <| .slot rfl (.refl _) <| .slot rfl (.refl _) <| .slot rfl (.refl _) <| .slot rfl (.refl _) <| .slot rfl (Le.bo (by simp only [mtF, ndt, dt]; simp_all)) <| .slot rfl (Le.of_eq (by simp)) <| .memEq rfl rfl <| .mem rfl <| .nil
                              · refine PC.gF rfl rfl rfl rfl c102 rfl ?_
                                refine PC.gF rfl rfl rfl rfl c102 rfl ?_
                                refine PC.gF rfl rfl rfl rfl c102 rfl ?_
                                refine PC.gF rfl rfl rfl rfl c102 rfl ?_
                                refine PC.gF rfl rfl rfl rfl c102 rfl ?_
                                refine PC.gF rfl rfl rfl rfl c102 rfl ?_
                                refine PC.gF rfl rfl rfl rfl c102 rfl ?_
                                refine PC.gF rfl rfl rfl rfl c102 rfl ?_
                                refine PC.gF rfl rfl rfl rfl c102 rfl ?_
                                refine PC.gF rfl rfl rfl rfl c102 rfl ?_
                                refine PC.gF rfl rfl rfl rfl c102 rfl ?_
                                refine PC.gF rfl rfl rfl rfl c102 rfl ?_
                                refine PC.gF rfl rfl rfl rfl c102 rfl ?_
                                refine PC.sem (OpSem.pickF rfl rfl c102 rfl) rfl rfl ?_
                                refine PC.sem (OpSem.move (.inl rfl) rfl) rfl rfl ?_
                                refine PC.gF rfl rfl rfl rfl rfl rfl ?_
                                refine PC.gF rfl rfl rfl rfl rfl rfl ?_
                                refine PC.gF rfl rfl rfl rfl rfl rfl ?_
                                refine PC.gF rfl rfl rfl rfl rfl rfl ?_
                                refine PC.gF rfl rfl rfl rfl rfl rfl ?_
                                refine PC.gF rfl rfl rfl rfl rfl rfl ?_
                                refine PC.gF rfl rfl rfl rfl rfl rfl ?_
                                refine PC.gF rfl rfl rfl rfl rfl rfl ?_
                                refine PC.gF rfl rfl rfl rfl rfl rfl ?_
                                refine PC.gF rfl rfl rfl rfl rfl rfl ?_
                                refine PC.gF rfl rfl rfl rfl rfl rfl ?_
                                refine PC.gF rfl rfl rfl rfl rfl rfl ?_
                                refine PC.gF rfl rfl rfl rfl rfl rfl ?_
                                refine PC.gF rfl rfl rfl rfl rfl rfl ?_
                                refine PC.gF rfl rfl rfl rfl rfl rfl ?_
                                refine PC.gF rfl rfl rfl rfl rfl rfl ?_
                                refine PC.gF rfl rfl rfl rfl rfl rfl ?_
                                refine PC.gF rfl rfl rfl rfl rfl rfl ?_
                                refine PC.gF rfl rfl rfl rfl rfl rfl ?_
                                refine PC.sem (OpSem.pickF rfl rfl rfl rfl) rfl rfl ?_
                                refine PC.done0 mixed (by kernel_rfl) (by kernel_rfl) (by kernel_rfl) (by kernel_rfl) (by kernel_rfl) ?_
                                refine TrOps.nil ?_
                                refine At.seq ?_
                                refine Tr.condF rfl rfl ?_
                                refine Tr.skip ?_
                                refine At.block_normal ?_
                                refine At.seq ?_
                                refine Tr.region ?_
                                refine TrOps.sem (OpSem.move (.inl rfl) rfl) rfl rfl (by decide) ?_
                                refine TrOps.sem (OpSem.bin rfl rfl rfl (badd (by omega) (by omega))) rfl rfl (by decide) ?_
                                refine TrOps.sem (OpSem.move (.inr rfl) rfl) rfl rfl (by decide) ?_
                                refine TrOps.nil ?_
                                refine At.again (k + 1) (by omega) ?_ (by omega)
                                exact .slot rfl (.refl _) <| .slot rfl (.refl _) <| .slot rfl (.refl _) <| .slot rfl (.refl _) <| .slot rfl (.refl _) <| .slot rfl (.refl _) <| .slot rfl (.refl _) <| .slot rfl (Le.bo (by simp only [mtF, ndt, dt]; simp_all)) <| .slot rfl (Le.of_eq (by simp)) <| .memEq rfl rfl <| .mem rfl <| .nil
                            · have hk : k = a.arcs.length := by simp at c91; omega
                              subst hk
                              refine Tr.exit ?_
                              refine At.pass_exit ?_
                              refine At.pass_exit ?_
                              refine At.block_same ?_
                              refine At.seq ?_
                              refine Tr.seq ?_
                              refine Tr.region ?_
                              refine TrOps.sem (OpSem.move (.inl rfl) rfl) rfl rfl (by decide) ?_
                              refine TrOps.sem (OpSem.not rfl rfl) rfl rfl (by decide) ?_
                              refine TrOps.nil ?_
                              refine At.seq ?_
                              refine Tr.cond rfl (fun c139 => ?_) (fun c139 => ?_)
                              · have hstp : passI a x y (passY a x (passX a (s.1, false) x) y) (i + 1) = (Eng.mark a (passI a x y (passY a x (passX a (s.1, false) x) y) i).1 x y, true) := by show stI a x y (passI a x y (passY a x (passX a (s.1, false) x) y) i) i = _; unfold stI; rw [if_neg hd, if_neg (fun h => h hfx), if_neg (by simpa using c139)]
                                refine Tr.region ?_
                                refine TrOps.sem (OpSem.move (.inl rfl) rfl) rfl rfl (by decide) ?_
                                refine TrOps.sem (OpSem.move (.inl rfl) rfl) rfl rfl (by decide) ?_
                                refine TrOps.sem (OpSem.move (.inl rfl) rfl) rfl rfl (by decide) ?_
                                refine TrOps.sem (OpSem.bin rfl rfl rfl (bmul (by omega) (by omega))) rfl rfl (by decide) ?_
                                refine TrOps.sem (OpSem.move (.inl rfl) rfl) rfl rfl (by decide) ?_
                                refine TrOps.sem (OpSem.bin rfl rfl rfl (badd (by omega) (by omega))) rfl rfl (by decide) ?_
                                refine TrOps.sem (OpSem.move (.inl rfl) rfl) rfl rfl (by decide) ?_
                                refine TrOps.sem (OpSem.move (.inl rfl) rfl) rfl rfl (by decide) ?_
                                refine TrOps.sem (OpSem.move (.inl rfl) rfl) rfl rfl (by decide) ?_
                                refine TrOps.sem (OpSem.bin rfl rfl rfl (bmul (by omega) (by omega))) rfl rfl (by decide) ?_
                                refine TrOps.sem (OpSem.move (.inl rfl) rfl) rfl rfl (by decide) ?_
                                refine TrOps.sem (OpSem.bin rfl rfl rfl (badd (by omega) (by omega))) rfl rfl (by decide) ?_
                                refine TrOps.sem (OpSem.idxo rfl rfl rfl rfl es59 (by omega) (by simp; omega)) rfl rfl (by decide) ?_
                                refine TrOps.storeq rfl rfl rfl rfl rfl rfl rfl vs4 (rows_get (by omega) (by omega)) (by simp) ?_
                                refine TrOps.sem (OpSem.idxo rfl rfl rfl rfl es59 (by omega) (by simp; omega)) rfl rfl (by decide) ?_
                                refine TrOps.storeq rfl rfl rfl rfl rfl rfl rfl vs4 (set2_get (by omega) (by omega)) (by simp) ?_
                                refine TrOps.sem (OpSem.move (.inr rfl) rfl) rfl rfl (by decide) ?_
                                refine TrOps.nil ?_
                                refine At.block_normal ?_
                                refine At.seq ?_
                                refine Tr.region ?_
                                refine TrOps.sem (OpSem.move (.inl rfl) rfl) rfl rfl (by decide) ?_
                                refine TrOps.sem (OpSem.bin rfl rfl rfl (badd (by omega) (by omega))) rfl rfl (by decide) ?_
                                refine TrOps.sem (OpSem.move (.inr rfl) rfl) rfl rfl (by decide) ?_
                                refine TrOps.nil ?_
                                refine At.again (i + 1) (by omega) ?_ (by omega)
                                exact .slot rfl (.refl _) <| .slot rfl (.refl _) <| .slot rfl (.refl _) <| .slot rfl (Le.bo (by rw [hstp])) <| .slot rfl (.refl _) <| .slot rfl (.refl _) <| .slot rfl (Le.of_eq (by simp)) <| .memEq rfl (by rw [hstp]; exact congrArg (Mo.own 1 4) mark_rows) <| .mem rfl <| .nil
                              · have hstp : passI a x y (passY a x (passX a (s.1, false) x) y) (i + 1) = (passI a x y (passY a x (passX a (s.1, false) x) y) i) := by show stI a x y (passI a x y (passY a x (passX a (s.1, false) x) y) i) i = _; unfold stI; rw [if_neg hd, if_neg (fun h => h hfx), if_pos (by simpa using c139)]
                                refine Tr.skip ?_
                                refine At.block_normal ?_
                                refine At.seq ?_
                                refine Tr.region ?_
                                refine TrOps.sem (OpSem.move (.inl rfl) rfl) rfl rfl (by decide) ?_
                                refine TrOps.sem (OpSem.bin rfl rfl rfl (badd (by omega) (by omega))) rfl rfl (by decide) ?_
                                refine TrOps.sem (OpSem.move (.inr rfl) rfl) rfl rfl (by decide) ?_
                                refine TrOps.nil ?_
                                refine At.again (i + 1) (by omega) ?_ (by omega)
                                exact .slot rfl (.refl _) <| .slot rfl (.refl _) <| .slot rfl (.refl _) <| .slot rfl (Le.bo (by rw [hstp])) <| .slot rfl (.refl _) <| .slot rfl (.refl _) <| .slot rfl (Le.of_eq (by simp)) <| .memEq rfl (by rw [hstp]) <| .mem rfl <| .nil
                      · have hend := passI_end (Nat.le_of_lt hi) (show dt a (passI a x y (passY a x (passX a (s.1, false) x) y) i).1 x y = true by simpa [dt] using c76)
                        refine Tr.exit ?_
                        refine At.pass_exit ?_
                        refine At.pass_exit ?_
                        refine At.block_same ?_
                        refine At.block_normal ?_
                        refine At.seq ?_
                        refine Tr.region ?_
                        refine TrOps.sem (OpSem.move (.inl rfl) rfl) rfl rfl (by decide) ?_
                        refine TrOps.sem (OpSem.bin rfl rfl rfl (badd (by omega) (by omega))) rfl rfl (by decide) ?_
                        refine TrOps.sem (OpSem.move (.inr rfl) rfl) rfl rfl (by decide) ?_
                        refine TrOps.nil ?_
                        refine At.again (y + 1) (by omega) ?_ (by omega)
                        exact .slot rfl (.refl _) <| .slot rfl (.refl _) <| .slot rfl (.refl _) <| .slot rfl (Le.bo (by rw [hend]; rfl)) <| .slot rfl (.refl _) <| .slot rfl (Le.of_eq (by simp)) <| .memEq rfl (by rw [hend]; rfl) <| .mem rfl <| .nil
                    · have hi : i = a.arcs.length := by simp at c66; omega
                      subst hi
                      refine TrOps.gF rfl rfl rfl rfl c66 rfl (by decide) ?_
                      refine TrOps.gF rfl rfl rfl rfl c66 rfl (by decide) ?_
                      refine TrOps.gF rfl rfl rfl rfl c66 rfl (by decide) ?_
                      refine TrOps.gF rfl rfl rfl rfl c66 rfl (by decide) ?_
                      refine TrOps.gF rfl rfl rfl rfl c66 rfl (by decide) ?_
                      refine TrOps.gF rfl rfl rfl rfl c66 rfl (by decide) ?_
                      refine TrOps.gF rfl rfl rfl rfl c66 rfl (by decide) ?_
                      refine TrOps.gF rfl rfl rfl rfl c66 rfl (by decide) ?_
                      refine TrOps.gF rfl rfl rfl rfl c66 rfl (by decide) ?_
                      refine TrOps.sem (OpSem.pickF rfl rfl c66 rfl) rfl rfl (by decide) ?_
                      refine TrOps.nil ?_
                      refine At.seq ?_
                      refine Tr.condF rfl rfl ?_
                      refine Tr.exit ?_
                      refine At.pass_exit ?_
                      refine At.pass_exit ?_
                      refine At.block_same ?_
                      refine At.block_normal ?_
                      refine At.seq ?_
                      refine Tr.region ?_
                      refine TrOps.sem (OpSem.move (.inl rfl) rfl) rfl rfl (by decide) ?_
                      refine TrOps.sem (OpSem.bin rfl rfl rfl (badd (by omega) (by omega))) rfl rfl (by decide) ?_
                      refine TrOps.sem (OpSem.move (.inr rfl) rfl) rfl rfl (by decide) ?_
                      refine TrOps.nil ?_
                      refine At.again (y + 1) (by omega) ?_ (by omega)
                      exact .slot rfl (.refl _) <| .slot rfl (.refl _) <| .slot rfl (.refl _) <| .slot rfl (Le.bo rfl) <| .slot rfl (.refl _) <| .slot rfl (Le.of_eq (by simp)) <| .memEq rfl rfl <| .mem rfl <| .nil
                · have hy : y = nS a := by simp at c58; omega
                  subst hy
                  refine Tr.exit ?_
                  refine At.pass_exit ?_
                  refine At.pass_exit ?_
                  refine At.block_same ?_
                  refine At.block_normal ?_
                  refine At.seq ?_
                  refine Tr.region ?_
                  refine TrOps.sem (OpSem.move (.inl rfl) rfl) rfl rfl (by decide) ?_
                  refine TrOps.sem (OpSem.bin rfl rfl rfl (badd (by omega) (by omega))) rfl rfl (by decide) ?_
                  refine TrOps.sem (OpSem.move (.inr rfl) rfl) rfl rfl (by decide) ?_
                  refine TrOps.nil ?_
                  refine At.again (x + 1) (by omega) ?_ (by omega)
                  exact .slot rfl (.refl _) <| .slot rfl (.refl _) <| .slot rfl (.refl _) <| .slot rfl (Le.bo rfl) <| .slot rfl (Le.of_eq (by simp)) <| .memEq rfl rfl <| .mem rfl <| .nil
            · have hx : x = nS a := by simp at c53; omega
              subst hx
              refine Tr.exit ?_
              refine At.pass_exit ?_
              refine At.pass_exit ?_
              refine At.block_same ?_
              refine At.block_normal ?_
              refine At.again (passX a (s.1, false) (nS a)) (mInv_s hA hinv.1).1 ?_ (by have q := (mInv_s hA hinv.1).2; rwa [hse] at q)
              exact .slot rfl (.refl _) <| .slot rfl (.refl _) <| .slot rfl (.refl _) <| .slot rfl (.refl _) <| .memEq rfl rfl <| .mem rfl <| .nil
        · have hs2 : s.2 = false := c50
          have hdl := hinv.1.len
          refine Tr.exit ?_
          refine At.pass_exit ?_
          refine At.pass_exit ?_
          refine At.block_same ?_
          refine At.seq ?_
          refine Tr.seq ?_
          refine Tr.region ?_
          refine TrOps.sem (OpSem.move (.inr rfl) rfl) rfl rfl (by decide) ?_
          refine TrOps.nil ?_
          refine At.seq ?_
          refine Tr.seq ?_
          refine Tr.ownNil (n := 13) 13 1 3 rfl ?_
          refine Tr.region ?_
          refine TrOps.sem (OpSem.move (.inr rfl) rfl) rfl rfl (by decide) ?_
          refine TrOps.nil ?_
          refine At.seq ?_
          refine Tr.seq ?_
          refine Tr.seq ?_
          refine Tr.region ?_
          refine TrOps.sem (OpSem.move (.inr rfl) rfl) rfl rfl (by decide) ?_
          refine TrOps.nil ?_
          refine At.seq ?_
          refine Tr.block ?_
          refine Tr.loop (X := Nat) (fun x => x ≤ nS a) (fun x => [(3, I (a.states)), (4, .o 23), (13, .o 13), (14, I (((dsTo (bisL a) x).length : Int))), (15, I (x))]) (fun x => [(23, .own 1 4 (s.1.map fun b => [D.v (.bool b)])), (13, .own 1 3 ((nmTo (bisL a) x).map fun n => [D.v (.int .i64 n)]))]) (fun x => nS a - x) 0 (by omega) ?_ ?_
          · exact .slot rfl (.refl _) <| .slot rfl (.refl _) <| .slot rfl (.refl _) <| .slot rfl (Le.of_eq (by simp [dsTo])) <| .slot rfl (Le.of_eq (by simp)) <| .memEq rfl rfl <| .memEq rfl (by simp [nmTo]) <| .nil
          · rintro x hxl
            refine Tr.seq ?_
            refine Tr.seq ?_
            refine Tr.region ?_
            refine TrOps.sem (OpSem.move (.inl rfl) rfl) rfl rfl (by decide) ?_
            refine TrOps.sem (OpSem.move (.inl rfl) rfl) rfl rfl (by decide) ?_
            refine TrOps.sem (OpSem.bin rfl rfl rfl blss) rfl rfl (by decide) ?_
            refine TrOps.nil ?_
            refine At.seq ?_
            refine Tr.cond rfl (fun c156 => ?_) (fun c156 => ?_)
            · have hx : x < nS a := by simp at c156; omega
              have hnl := nmTo_len (l := bisL a) (k := x)
              have hdsl := dsTo_len (l := bisL a) (k := x)
              refine Tr.skip ?_
              refine At.seq ?_
              refine Tr.seq ?_
              refine Tr.block ?_
              refine Tr.seq ?_
              refine Tr.region ?_
              refine TrOps.sem (OpSem.move (.inr rfl) rfl) rfl rfl (by decide) ?_
              refine TrOps.nil ?_
              refine At.seq ?_
              refine Tr.seq ?_
              refine Tr.seq ?_
              refine Tr.region ?_
              refine TrOps.sem (OpSem.move (.inr rfl) rfl) rfl rfl (by decide) ?_
              refine TrOps.nil ?_
              refine At.seq ?_
              refine Tr.block ?_
              refine Tr.loop (X := Nat) (fun y => y ≤ x) (fun y => [(3, I (a.states)), (4, .o 23), (13, .o 13), (14, I (((dsTo (bisL a) x).length : Int))), (15, I (x)), (16, I ((pT a x y))), (17, I (y))]) (fun y => [(23, .own 1 4 (s.1.map fun b => [D.v (.bool b)])), (13, .own 1 3 ((nmTo (bisL a) x).map fun n => [D.v (.int .i64 n)]))]) (fun y => x - y) 0 (by omega) ?_ ?_
              · exact .slot rfl (.refl _) <| .slot rfl (.refl _) <| .slot rfl (.refl _) <| .slot rfl (.refl _) <| .slot rfl (.refl _) <| .slot rfl (Le.i pT_0.symm) <| .slot rfl (Le.of_eq (by simp)) <| .memEq rfl rfl <| .memEq rfl rfl <| .nil
              · rintro y hyl
                refine Tr.seq ?_
                refine Tr.seq ?_
                refine Tr.region ?_
                refine TrOps.sem (OpSem.move (.inl rfl) rfl) rfl rfl (by decide) ?_
                refine TrOps.sem (OpSem.move (.inl rfl) rfl) rfl rfl (by decide) ?_
                refine TrOps.sem (OpSem.bin rfl rfl rfl blss) rfl rfl (by decide) ?_
                refine TrOps.nil ?_
                refine At.seq ?_
                refine Tr.cond rfl (fun c161 => ?_) (fun c161 => ?_)
                · have hy : y < x := by simpa using c161
                  have hix := ixZ hA (u := x) (v := y) ⟨by omega, by omega⟩ ⟨by omega, by omega⟩
                  refine Tr.skip ?_
                  refine At.seq ?_
                  refine Tr.seq ?_
                  refine Tr.block ?_
                  refine Tr.seq ?_
                  refine Tr.region ?_
                  refine TrOps.sem (OpSem.move (.inl rfl) rfl) rfl rfl (by decide) ?_
                  refine TrOps.sem (OpSem.move (.inl rfl) rfl) rfl rfl (by decide) ?_
                  refine TrOps.sem (OpSem.move (.inl rfl) rfl) rfl rfl (by decide) ?_
                  refine TrOps.sem (OpSem.bin rfl rfl rfl (bmul (by omega) (by omega))) rfl rfl (by decide) ?_
                  refine TrOps.sem (OpSem.move (.inl rfl) rfl) rfl rfl (by decide) ?_
                  refine TrOps.sem (OpSem.bin rfl rfl rfl (badd (by omega) (by omega))) rfl rfl (by decide) ?_
                  refine TrOps.sem (OpSem.idxo rfl rfl rfl rfl es59 (by omega) (by simp; omega)) rfl rfl (by decide) ?_
                  refine TrOps.sem (OpSem.loadq rfl rfl rfl vs4 (rows_get (by omega) (by omega)) rfl) rfl rfl (by decide) ?_
                  refine TrOps.sem (OpSem.not rfl rfl) rfl rfl (by decide) ?_
                  refine TrOps.nil ?_
                  refine At.seq ?_
                  refine Tr.cond rfl (fun c172 => ?_) (fun c172 => ?_)
                  · have he := (mInv_end hA hinv hs2 hx (show y < nS a by omega)).1 (by simpa [dt] using c172)
                    refine Tr.region ?_
                    refine TrOps.sem (OpSem.move (.inl rfl) rfl) rfl rfl (by decide) ?_
                    refine TrOps.sem (OpSem.move (.inl rfl) rfl) rfl rfl (by decide) ?_
                    refine TrOps.sem (OpSem.idxo rfl rfl rfl rfl es23 (by omega) (by simp [nmTo_len]; omega)) rfl rfl (by decide) ?_
                    refine TrOps.sem (OpSem.loadq rfl rfl rfl vs3 (rows_get (by omega) (by rw [nmTo_len]; omega)) rfl) rfl rfl (by decide) ?_
                    refine TrOps.sem (OpSem.move (.inr rfl) rfl) rfl rfl (by decide) ?_
                    refine TrOps.nil ?_
                    refine At.block_normal ?_
                    refine At.seq ?_
                    refine Tr.region ?_
                    refine TrOps.sem (OpSem.move (.inl rfl) rfl) rfl rfl (by decide) ?_
                    refine TrOps.sem (OpSem.bin rfl rfl rfl (badd (by omega) (by omega))) rfl rfl (by decide) ?_
                    refine TrOps.sem (OpSem.move (.inr rfl) rfl) rfl rfl (by decide) ?_
                    refine TrOps.nil ?_
                    refine At.again (y + 1) (by omega) ?_ (by omega)
                    exact .slot rfl (.refl _) <| .slot rfl (.refl _) <| .slot rfl (.refl _) <| .slot rfl (.refl _) <| .slot rfl (.refl _) <| .slot rfl (Le.i (pT_t (by omega) hy he)) <| .slot rfl (Le.of_eq (by simp)) <| .memEq rfl rfl <| .memEq rfl rfl <| .nil
                  · have he : nth (bisL a) x ≠ nth (bisL a) y := fun h => by have q := (mInv_end hA hinv hs2 hx (show y < nS a by omega)).2 h; unfold dt at q; rw [q] at c172; simp at c172
                    refine Tr.skip ?_
                    refine At.block_normal ?_
                    refine At.seq ?_
                    refine Tr.region ?_
                    refine TrOps.sem (OpSem.move (.inl rfl) rfl) rfl rfl (by decide) ?_
                    refine TrOps.sem (OpSem.bin rfl rfl rfl (badd (by omega) (by omega))) rfl rfl (by decide) ?_
                    refine TrOps.sem (OpSem.move (.inr rfl) rfl) rfl rfl (by decide) ?_
                    refine TrOps.nil ?_
                    refine At.again (y + 1) (by omega) ?_ (by omega)
                    exact .slot rfl (.refl _) <| .slot rfl (.refl _) <| .slot rfl (.refl _) <| .slot rfl (.refl _) <| .slot rfl (.refl _) <| .slot rfl (Le.i (pT_f he)) <| .slot rfl (Le.of_eq (by simp)) <| .memEq rfl rfl <| .memEq rfl rfl <| .nil
                · have hy : x = y := by simp at c161; omega
                  subst hy
                  refine Tr.exit ?_
                  refine At.pass_exit ?_
                  refine At.pass_exit ?_
                  refine At.block_same ?_
                  refine At.seq ?_
                  refine Tr.seq ?_
                  refine Tr.seq ?_
                  refine Tr.region ?_
                  refine TrOps.sem (OpSem.move (.inl rfl) rfl) rfl rfl (by decide) ?_
                  refine TrOps.sem (OpSem.bin rfl rfl rfl blss) rfl rfl (by decide) ?_
                  refine TrOps.nil ?_
                  refine At.seq ?_
                  refine Tr.cond rfl (fun c178 => ?_) (fun c178 => ?_)
                  · have hn := pT_new hx (by simpa using c178)
                    refine Tr.seq ?_
                    refine Tr.region ?_
                    refine TrOps.sem (OpSem.move (.inl rfl) rfl) rfl rfl (by decide) ?_
                    refine TrOps.sem (OpSem.move (.inr rfl) rfl) rfl rfl (by decide) ?_
                    refine TrOps.nil ?_
                    refine At.seq ?_
                    refine Tr.region ?_
                    refine TrOps.sem (OpSem.move (.inl rfl) rfl) rfl rfl (by decide) ?_
                    refine TrOps.sem (OpSem.bin rfl rfl rfl (badd (by omega) (by omega))) rfl rfl (by decide) ?_
                    refine TrOps.sem (OpSem.move (.inr rfl) rfl) rfl rfl (by decide) ?_
                    refine TrOps.nil ?_
                    refine At.seq ?_
                    refine Tr.region ?_
                    refine TrOps.sem (OpSem.move (.inl rfl) rfl) rfl rfl (by decide) ?_
                    refine TrOps.sem (OpSem.move (.inl rfl) rfl) rfl rfl (by decide) ?_
                    refine TrOps.sem (OpSem.buildSlice rfl rfl es23 ze23 rfl rfl (by decide) (by decide) rfl rfl) rfl rfl (by decide) ?_
                    refine TrOps.append rfl rfl rfl (by decide) rfl rfl rfl es23 el23 zc3 rfl by3 (by simp [D.one, Value.oneCell']) (by simp [maxLen]; omega) (by simp; omega) ?_
                    refine TrOps.sem (OpSem.move (.inr rfl) rfl) rfl rfl (by decide) ?_
                    refine TrOps.nil ?_
                    refine At.block_normal ?_
                    refine At.seq ?_
                    refine Tr.region ?_
                    refine TrOps.sem (OpSem.move (.inl rfl) rfl) rfl rfl (by decide) ?_
                    refine TrOps.sem (OpSem.bin rfl rfl rfl (badd (by omega) (by omega))) rfl rfl (by decide) ?_
                    refine TrOps.sem (OpSem.move (.inr rfl) rfl) rfl rfl (by decide) ?_
                    refine TrOps.nil ?_
                    refine At.again (x + 1) (by omega) ?_ (by omega)
                    exact .slot rfl (.refl _) <| .slot rfl (.refl _) <| .slot rfl (.refl _) <| .slot rfl (Le.i (by rw [hn.2]; simp)) <| .slot rfl (Le.of_eq (by simp)) <| .memEq rfl rfl <| .memEq rfl (by rw [hn.1]; simp) <| .nil
                  · have hn := pT_old hx (by simpa using c178)
                    refine Tr.skip ?_
                    refine At.seq ?_
                    refine Tr.region ?_
                    refine TrOps.sem (OpSem.move (.inl rfl) rfl) rfl rfl (by decide) ?_
                    refine TrOps.sem (OpSem.move (.inl rfl) rfl) rfl rfl (by decide) ?_
                    refine TrOps.sem (OpSem.buildSlice rfl rfl es23 ze23 rfl rfl (by decide) (by decide) rfl rfl) rfl rfl (by decide) ?_
                    refine TrOps.append rfl rfl rfl (by decide) rfl rfl rfl es23 el23 zc3 rfl by3 (by simp [D.one, Value.oneCell']) (by simp [maxLen]; omega) (by simp; omega) ?_
                    refine TrOps.sem (OpSem.move (.inr rfl) rfl) rfl rfl (by decide) ?_
                    refine TrOps.nil ?_
                    refine At.block_normal ?_
                    refine At.seq ?_
                    refine Tr.region ?_
                    refine TrOps.sem (OpSem.move (.inl rfl) rfl) rfl rfl (by decide) ?_
                    refine TrOps.sem (OpSem.bin rfl rfl rfl (badd (by omega) (by omega))) rfl rfl (by decide) ?_
                    refine TrOps.sem (OpSem.move (.inr rfl) rfl) rfl rfl (by decide) ?_
                    refine TrOps.nil ?_
                    refine At.again (x + 1) (by omega) ?_ (by omega)
                    exact .slot rfl (.refl _) <| .slot rfl (.refl _) <| .slot rfl (.refl _) <| .slot rfl (Le.i (by rw [hn.2])) <| .slot rfl (Le.of_eq (by simp)) <| .memEq rfl rfl <| .memEq rfl (by rw [hn.1]; simp) <| .nil
            · have hx : x = nS a := by simp at c156; omega
              subst hx
              refine Tr.exit ?_
              refine At.pass_exit ?_
              refine At.pass_exit ?_
              refine At.block_same ?_
              refine At.seq ?_
              refine Tr.seq ?_
              refine Tr.region ?_
              refine TrOps.sem (OpSem.move (.inl rfl) rfl) rfl rfl (by decide) ?_
              refine TrOps.sem (OpSem.move (.inr rfl) rfl) rfl rfl (by decide) ?_
              refine TrOps.nil ?_
              refine At.seq ?_
              refine Tr.ret ?_
              exact At.retO2 rfl rfl rfl (by simp) (by rw [coarse_end])

theorem law_ShrinkBisimulationMatchesSpec_does (a : Abs) (hr : -9223372036854775808 ≤ a.states ∧ a.states ≤ 9223372036854775807) : Does Try.prog false 4 [absS a] (Bo true) := by
  refine Does.of_body Try.func4 rfl rfl (by simp) Try.call4 (fun w0 O0 => ?_)
  refine Tr.lenG (n := 0) (i := 2) rfl rfl (fun len0_2 => ?_)
  refine Tr.lenG (n := 0) (i := 4) rfl rfl (fun len0_4 => ?_)
  refine Tr.seq ?_
  refine Tr.region ?_
  refine TrOps.semM (OpSem.box 1 rfl rfl rfl rfl) rfl rfl (by decide) ?_
  refine TrOps.sem (OpSem.move (.inr rfl) rfl) rfl rfl (by decide) ?_
  refine TrOps.nil ?_
  refine At.seq ?_
  refine Tr.seq ?_
  refine Tr.seq ?_
  refine Tr.region ?_
  refine TrOps.sem (OpSem.call0 (law_shrinkExample_does) rfl rfl rfl rfl (Les.refl _)) rfl rfl (by decide) ?_
  refine TrOps.sem (OpSem.not rfl rfl) rfl rfl (by decide) ?_
  refine TrOps.nil ?_
  refine At.seq ?_
  refine Tr.condF rfl rfl ?_
  refine Tr.skip ?_
  refine At.seq ?_
  refine Tr.seq ?_
  refine Tr.region ?_
  refine TrOps.sem (OpSem.loadbN rfl rfl rfl vs25 (by first | decide | simp)) rfl rfl (by decide) ?_
  refine TrOps.sem (OpSem.call0 (shrink_Bisimulation_does a hr) rfl rfl rfl rfl (Les.refl _)) rfl rfl (by decide) ?_
  refine TrOps.sem (OpSem.move (.inl rfl) rfl) rfl rfl (by decide) ?_
  refine TrOps.sem (OpSem.extract rfl rfl rfl) rfl rfl (by decide) ?_
  refine TrOps.sem (OpSem.extract rfl rfl rfl) rfl rfl (by decide) ?_
  refine TrOps.semM (OpSem.alloc 4 rfl zc28 rfl) rfl rfl (by decide) ?_
  refine TrOps.sem (OpSem.move (.inr rfl) rfl) rfl rfl (by decide) ?_
  refine TrOps.storeb rfl rfl rfl rfl rfl rfl rfl vs28 (by first | decide | simp) ?_
  refine TrOps.nil ?_
  refine At.seq ?_
  refine Tr.seq ?_
  refine Tr.seq ?_
  refine Tr.region ?_
  refine TrOps.sem (OpSem.loadbN rfl rfl rfl vs25 (by first | decide | simp)) rfl rfl (by decide) ?_
  refine TrOps.sem (OpSem.call0 (Q_AbstractionFault_does a) rfl rfl rfl rfl (Les.refl _)) rfl rfl (by decide) ?_
  refine TrOps.semM (OpSem.alloc 5 rfl zc28 rfl) rfl rfl (by decide) ?_
  refine TrOps.storeb rfl rfl rfl rfl rfl rfl rfl vs28 (by first | decide | simp) ?_
  refine TrOps.nil ?_
  refine At.seq ?_
  refine Tr.seq ?_
  refine Tr.region ?_
  refine TrOps.sem (OpSem.fieldr rfl rfl fo28_0) rfl rfl (by decide) ?_
  refine TrOps.sem (OpSem.loadb1 rfl rfl rfl vs3 rfl) rfl rfl (by decide) ?_
  refine TrOps.sem (OpSem.bin rfl rfl rfl bneq) rfl rfl (by decide) ?_
  refine TrOps.nil ?_
  refine At.seq ?_
  refine Tr.cond rfl (fun c17 => ?_) (fun c17 => ?_)
  · have hne : absFault a ≠ (0, 0) := fun h => by simp [h] at c17
    refine Tr.seq ?_
    refine Tr.region ?_
    refine TrOps.sem (OpSem.loadbN rfl rfl rfl vs28 (by first | decide | simp)) rfl rfl (by decide) ?_
    refine TrOps.sem (OpSem.loadbN rfl rfl rfl vs28 (by first | decide | simp)) rfl rfl (by decide) ?_
    refine TrOps.sem (OpSem.eqS2 rfl rfl rfl io28) rfl rfl (by decide) ?_
    refine TrOps.sem (OpSem.move (.inl rfl) rfl) rfl rfl (by decide) ?_
    refine TrOps.gT rfl rfl rfl rfl (by simp) ?_
    refine TrOps.sem (OpSem.move (.inl rfl) rfl) rfl rfl (by decide) ?_
    refine TrOps.gT rfl rfl rfl rfl (by simp) ?_
    refine TrOps.sem (OpSem.lenL rfl rfl es23) rfl rfl (by decide) ?_
    refine TrOps.gT rfl rfl rfl rfl (by simp) ?_
    refine TrOps.sem (OpSem.bin rfl rfl rfl beql) rfl rfl (by decide) ?_
    refine TrOps.sem (OpSem.pickT rfl rfl (by simp) rfl) rfl rfl (by decide) ?_
    refine TrOps.sem (OpSem.move (.inr rfl) rfl) rfl rfl (by decide) ?_
    refine TrOps.nil ?_
    refine At.seq ?_
    refine Tr.ret ?_
    refine At.pass_ret ?_
    exact At.ret rfl (.tmp rfl <| .nil) rfl (Le.bo (by first | rfl | (rw [bisR_1 hne]; rfl) | exact (decide_eq_true (by rw [bisR_0 h0]; exact bis_isB hA (bisL_bis hA))).symm | exact (decide_eq_true (by rw [bisR_0 h0]; exact bis_isB hA (bisL_bis hA))) | simp))
  · have h0 : absFault a = (0, 0) := absFault_c (by simpa using c17)
    have hA := (absFault_ok (congrArg Prod.fst h0)).1
    refine Tr.skip ?_
    refine At.seq ?_
    refine Tr.seq ?_
    refine Tr.region ?_
    refine TrOps.sem (OpSem.fieldr rfl rfl fo28_0) rfl rfl (by decide) ?_
    refine TrOps.sem (OpSem.loadb1 rfl rfl rfl vs3 rfl) rfl rfl (by decide) ?_
    refine TrOps.sem (OpSem.bin rfl rfl rfl beql) rfl rfl (by decide) ?_
    refine TrOps.sem (OpSem.move (.inl rfl) rfl) rfl rfl (by decide) ?_
    refine TrOps.gT rfl rfl rfl rfl (by rw [h0]; rfl) ?_
    refine TrOps.sem (OpSem.move (.inl rfl) rfl) rfl rfl (by decide) ?_
    refine TrOps.gT rfl rfl rfl rfl (by rw [h0]; rfl) ?_
    refine TrOps.sem (OpSem.loadbN rfl rfl rfl vs25 (by first | decide | simp)) rfl rfl (by decide) ?_
    refine TrOps.gT rfl rfl rfl rfl (by rw [h0]; rfl) ?_
    refine TrOps.sem (OpSem.call0 (Q_Coarsest_does a hA).fresh rfl rfl rfl rfl (Les.refl _)) rfl rfl (by decide) ?_
    refine TrOps.gT rfl rfl rfl rfl (by rw [h0]; rfl) ?_
    refine TrOps.sem (OpSem.call0 (R_Ints_does (bisR a) (bisL a)) rfl rfl rfl rfl (Les.refl _)) rfl rfl (by decide) ?_
    refine TrOps.sem (OpSem.pickT rfl rfl (by rw [h0]; rfl) rfl) rfl rfl (by decide) ?_
    refine TrOps.sem (OpSem.move (.inl rfl) rfl) rfl rfl (by decide) ?_
    refine TrOps.gT rfl rfl rfl rfl (by rw [bisR_0 h0]; simp) ?_
    refine TrOps.sem (OpSem.loadbN rfl rfl rfl vs25 (by first | decide | simp)) rfl rfl (by decide) ?_
    refine TrOps.gT rfl rfl rfl rfl (by rw [bisR_0 h0]; simp) ?_
    refine TrOps.sem (OpSem.move (.inl rfl) rfl) rfl rfl (by decide) ?_
    refine TrOps.gT rfl rfl rfl rfl (by rw [bisR_0 h0]; simp) ?_
    refine TrOps.sem (OpSem.call0 (Q_IsBisimulation_does a (bisR a) hA (bisR_len h0)) rfl rfl rfl rfl (Les.refl _)) rfl rfl (by decide) ?_
    refine TrOps.sem (OpSem.pickT rfl rfl (by rw [bisR_0 h0]; simp) rfl) rfl rfl (by decide) ?_
    refine TrOps.sem (OpSem.move (.inr rfl) rfl) rfl rfl (by decide) ?_
    refine TrOps.nil ?_
    refine At.seq ?_
    refine Tr.ret ?_
    exact At.ret rfl (.tmp rfl <| .nil) rfl (Le.bo (by first | rfl | (rw [bisR_1 hne]; rfl) | exact (decide_eq_true (by rw [bisR_0 h0]; exact bis_isB hA (bisL_bis hA))).symm | exact (decide_eq_true (by rw [bisR_0 h0]; exact bis_isB hA (bisL_bis hA))) | simp))

theorem law_ShrinkCoarsest_does (a : Abs) (part : List Int) (hr : -9223372036854775808 ≤ a.states ∧ a.states ≤ 9223372036854775807) : Does Try.prog false 3 [absS a, .d (ints part)] (Bo true) := by
  refine Does.of_body Try.func3 rfl rfl (by simp) Try.call3 (fun w0 O0 => ?_)
  refine Tr.lenG (n := 0) (i := 2) rfl rfl (fun len0_2 => ?_)
  refine Tr.lenG (n := 0) (i := 4) rfl rfl (fun len0_4 => ?_)
  refine Tr.lenLe (n := 1) rfl (fun len1 => ?_)
  refine Tr.seq ?_
  refine Tr.region ?_
  refine TrOps.semM (OpSem.box 2 rfl rfl rfl rfl) rfl rfl (by decide) ?_
  refine TrOps.sem (OpSem.move (.inr rfl) rfl) rfl rfl (by decide) ?_
  refine TrOps.nil ?_
  refine At.seq ?_
  refine Tr.seq ?_
  refine Tr.seq ?_
  refine Tr.region ?_
  refine TrOps.sem (OpSem.call0 (law_shrinkExample_does) rfl rfl rfl rfl (Les.refl _)) rfl rfl (by decide) ?_
  refine TrOps.sem (OpSem.not rfl rfl) rfl rfl (by decide) ?_
  refine TrOps.nil ?_
  refine At.seq ?_
  refine Tr.condF rfl rfl ?_
  refine Tr.skip ?_
  refine At.seq ?_
  refine Tr.seq ?_
  refine Tr.region ?_
  refine TrOps.sem (OpSem.loadbN rfl rfl rfl vs25 (by first | decide | simp)) rfl rfl (by decide) ?_
  refine TrOps.sem (OpSem.call0 (shrink_Bisimulation_does a hr) rfl rfl rfl rfl (Les.refl _)) rfl rfl (by decide) ?_
  refine TrOps.sem (OpSem.move (.inl rfl) rfl) rfl rfl (by decide) ?_
  refine TrOps.sem (OpSem.extract rfl rfl rfl) rfl rfl (by decide) ?_
  refine TrOps.sem (OpSem.extract rfl rfl rfl) rfl rfl (by decide) ?_
  refine TrOps.semM (OpSem.alloc 6 rfl zc28 rfl) rfl rfl (by decide) ?_
  refine TrOps.sem (OpSem.move (.inr rfl) rfl) rfl rfl (by decide) ?_
  refine TrOps.storeb rfl rfl rfl rfl rfl rfl rfl vs28 (by first | decide | simp) ?_
  refine TrOps.nil ?_
  refine At.seq ?_
  refine Tr.seq ?_
  refine Tr.seq ?_
  refine Tr.region ?_
  refine TrOps.sem (OpSem.fieldr rfl rfl fo28_0) rfl rfl (by decide) ?_
  refine TrOps.sem (OpSem.loadb1 rfl rfl rfl vs3 rfl) rfl rfl (by decide) ?_
  refine TrOps.sem (OpSem.bin rfl rfl rfl bneq) rfl rfl (by decide) ?_
  refine TrOps.sem (OpSem.move (.inl rfl) rfl) rfl rfl (by decide) ?_
  refine TrOps.split (n := 19) rfl (fun c19 => ?_) (fun c19 => ?_)
  · have hne : absFault a ≠ (0, 0) := fun h => by simp [h] at c19
    refine TrOps.gF rfl rfl rfl rfl c19 rfl (by decide) ?_
    refine TrOps.gF rfl rfl rfl rfl c19 rfl (by decide) ?_
    refine TrOps.gF rfl rfl rfl rfl c19 rfl (by decide) ?_
    refine TrOps.gF rfl rfl rfl rfl c19 rfl (by decide) ?_
    refine TrOps.gF rfl rfl rfl rfl c19 rfl (by decide) ?_
    refine TrOps.sem (OpSem.pickT rfl rfl c19 rfl) rfl rfl (by decide) ?_
    refine TrOps.sem (OpSem.move (.inl rfl) rfl) rfl rfl (by decide) ?_
    refine TrOps.gF rfl rfl rfl rfl rfl rfl (by decide) ?_
    refine TrOps.gF rfl rfl rfl rfl rfl rfl (by decide) ?_
    refine TrOps.gF rfl rfl rfl rfl rfl rfl (by decide) ?_
    refine TrOps.gF rfl rfl rfl rfl rfl rfl (by decide) ?_
    refine TrOps.gF rfl rfl rfl rfl rfl rfl (by decide) ?_
    refine TrOps.sem (OpSem.pickT rfl rfl rfl rfl) rfl rfl (by decide) ?_
    refine TrOps.sem (OpSem.move (.inl rfl) rfl) rfl rfl (by decide) ?_
    refine TrOps.gF rfl rfl rfl rfl rfl rfl (by decide) ?_
    refine TrOps.gF rfl rfl rfl rfl rfl rfl (by decide) ?_
    refine TrOps.gF rfl rfl rfl rfl rfl rfl (by decide) ?_
    refine TrOps.sem (OpSem.pickT rfl rfl rfl rfl) rfl rfl (by decide) ?_
    refine TrOps.sem (OpSem.move (.inl rfl) rfl) rfl rfl (by decide) ?_
    refine TrOps.gF rfl rfl rfl rfl rfl rfl (by decide) ?_
    refine TrOps.gF rfl rfl rfl rfl rfl rfl (by decide) ?_
    refine TrOps.gF rfl rfl rfl rfl rfl rfl (by decide) ?_
    refine TrOps.gF rfl rfl rfl rfl rfl rfl (by decide) ?_
    refine TrOps.sem (OpSem.pickT rfl rfl rfl rfl) rfl rfl (by decide) ?_
    refine TrOps.nil ?_
    refine At.seq ?_
    refine Tr.condT rfl rfl ?_
    refine Tr.seq ?_
    refine Tr.region ?_
    refine TrOps.sem (OpSem.fieldr rfl rfl fo28_0) rfl rfl (by decide) ?_
    refine TrOps.sem (OpSem.loadb1 rfl rfl rfl vs3 rfl) rfl rfl (by decide) ?_
    refine TrOps.sem (OpSem.bin rfl rfl rfl beql) rfl rfl (by decide) ?_
    refine TrOps.sem (OpSem.move (.inl rfl) rfl) rfl rfl (by decide) ?_
    refine TrOps.split (n := 47) rfl (fun c47 => ?_) (fun c47 => ?_)
    · refine TrOps.gF rfl rfl rfl rfl c47 rfl (by decide) ?_
      refine TrOps.gF rfl rfl rfl rfl c47 rfl (by decide) ?_
      refine TrOps.gF rfl rfl rfl rfl c47 rfl (by decide) ?_
      refine TrOps.sem (OpSem.pickT rfl rfl c47 rfl) rfl rfl (by decide) ?_
      refine TrOps.sem (OpSem.move (.inr rfl) rfl) rfl rfl (by decide) ?_
      refine TrOps.nil ?_
      refine At.seq ?_
      refine Tr.ret ?_
      refine At.pass_ret ?_
      exact At.ret rfl (.tmp rfl <| .nil) rfl (Le.bo (by first | rfl | (rw [bisR_1 hne]; rfl) | (exfalso; simp [h0] at c47; done) | (rw [h0]; rfl) | simp))
    · refine TrOps.gT rfl rfl rfl rfl c47 ?_
      refine TrOps.sem (OpSem.move (.inl rfl) rfl) rfl rfl (by decide) ?_
      refine TrOps.gT rfl rfl rfl rfl c47 ?_
      refine TrOps.sem (OpSem.lenL rfl rfl es23) rfl rfl (by decide) ?_
      refine TrOps.gT rfl rfl rfl rfl c47 ?_
      refine TrOps.sem (OpSem.bin rfl rfl rfl beql) rfl rfl (by decide) ?_
      refine TrOps.sem (OpSem.pickF rfl rfl c47 rfl) rfl rfl (by decide) ?_
      refine TrOps.sem (OpSem.move (.inr rfl) rfl) rfl rfl (by decide) ?_
      refine TrOps.nil ?_
      refine At.seq ?_
      refine Tr.ret ?_
      refine At.pass_ret ?_
      exact At.ret rfl (.tmp rfl <| .nil) rfl (Le.bo (by first | rfl | (rw [bisR_1 hne]; rfl) | (exfalso; simp [h0] at c47; done) | (rw [h0]; rfl) | simp))
  · have h0 : absFault a = (0, 0) := absFault_c (by simpa using c19)
    have hA := (absFault_ok (congrArg Prod.fst h0)).1
    have hns := nS_eq hA
    have hbl := bisR_len h0
    refine TrOps.gT rfl rfl rfl rfl c19 ?_
    refine TrOps.sem (OpSem.move (.inl rfl) rfl) rfl rfl (by decide) ?_
    refine TrOps.gT rfl rfl rfl rfl c19 ?_
    refine TrOps.sem (OpSem.lenL rfl rfl es23) rfl rfl (by decide) ?_
    refine TrOps.gT rfl rfl rfl rfl c19 ?_
    refine TrOps.sem (OpSem.fieldr rfl rfl fo25_0) rfl rfl (by decide) ?_
    refine TrOps.gT rfl rfl rfl rfl c19 ?_
    refine TrOps.sem (OpSem.loadb1 rfl rfl rfl vs3 rfl) rfl rfl (by decide) ?_
    refine TrOps.gT rfl rfl rfl rfl c19 ?_
    refine TrOps.sem (OpSem.bin rfl rfl rfl bneq) rfl rfl (by decide) ?_
    refine TrOps.sem (OpSem.pickF rfl rfl c19 rfl) rfl rfl (by decide) ?_
    refine TrOps.sem (OpSem.move (.inl rfl) rfl) rfl rfl (by decide) ?_
    refine TrOps.split (n := 26) rfl (fun c26 => ?_) (fun c26 => ?_)
    · refine TrOps.gF rfl rfl rfl rfl c26 rfl (by decide) ?_
      refine TrOps.gF rfl rfl rfl rfl c26 rfl (by decide) ?_
      refine TrOps.gF rfl rfl rfl rfl c26 rfl (by decide) ?_
      refine TrOps.gF rfl rfl rfl rfl c26 rfl (by decide) ?_
      refine TrOps.gF rfl rfl rfl rfl c26 rfl (by decide) ?_
      refine TrOps.sem (OpSem.pickT rfl rfl c26 rfl) rfl rfl (by decide) ?_
      refine TrOps.sem (OpSem.move (.inl rfl) rfl) rfl rfl (by decide) ?_
      refine TrOps.gF rfl rfl rfl rfl rfl rfl (by decide) ?_
      refine TrOps.gF rfl rfl rfl rfl rfl rfl (by decide) ?_
      refine TrOps.gF rfl rfl rfl rfl rfl rfl (by decide) ?_
      refine TrOps.sem (OpSem.pickT rfl rfl rfl rfl) rfl rfl (by decide) ?_
      refine TrOps.sem (OpSem.move (.inl rfl) rfl) rfl rfl (by decide) ?_
      refine TrOps.gF rfl rfl rfl rfl rfl rfl (by decide) ?_
      refine TrOps.gF rfl rfl rfl rfl rfl rfl (by decide) ?_
      refine TrOps.gF rfl rfl rfl rfl rfl rfl (by decide) ?_
      refine TrOps.gF rfl rfl rfl rfl rfl rfl (by decide) ?_
      refine TrOps.sem (OpSem.pickT rfl rfl rfl rfl) rfl rfl (by decide) ?_
      refine TrOps.nil ?_
      refine At.seq ?_
      refine Tr.condT rfl rfl ?_
      refine Tr.seq ?_
      refine Tr.region ?_
      refine TrOps.sem (OpSem.fieldr rfl rfl fo28_0) rfl rfl (by decide) ?_
      refine TrOps.sem (OpSem.loadb1 rfl rfl rfl vs3 rfl) rfl rfl (by decide) ?_
      refine TrOps.sem (OpSem.bin rfl rfl rfl beql) rfl rfl (by decide) ?_
      refine TrOps.sem (OpSem.move (.inl rfl) rfl) rfl rfl (by decide) ?_
      refine TrOps.split (n := 47) rfl (fun c47 => ?_) (fun c47 => ?_)
      · refine TrOps.gF rfl rfl rfl rfl c47 rfl (by decide) ?_
        refine TrOps.gF rfl rfl rfl rfl c47 rfl (by decide) ?_
        refine TrOps.gF rfl rfl rfl rfl c47 rfl (by decide) ?_
        refine TrOps.sem (OpSem.pickT rfl rfl c47 rfl) rfl rfl (by decide) ?_
        refine TrOps.sem (OpSem.move (.inr rfl) rfl) rfl rfl (by decide) ?_
        refine TrOps.nil ?_
        refine At.seq ?_
        refine Tr.ret ?_
        refine At.pass_ret ?_
        exact At.ret rfl (.tmp rfl <| .nil) rfl (Le.bo (by first | rfl | (rw [bisR_1 hne]; rfl) | (exfalso; simp [h0] at c47; done) | (rw [h0]; rfl) | simp))
      · refine TrOps.gT rfl rfl rfl rfl c47 ?_
        refine TrOps.sem (OpSem.move (.inl rfl) rfl) rfl rfl (by decide) ?_
        refine TrOps.gT rfl rfl rfl rfl c47 ?_
        refine TrOps.sem (OpSem.lenL rfl rfl es23) rfl rfl (by decide) ?_
        refine TrOps.gT rfl rfl rfl rfl c47 ?_
        refine TrOps.sem (OpSem.bin rfl rfl rfl beql) rfl rfl (by decide) ?_
        refine TrOps.sem (OpSem.pickF rfl rfl c47 rfl) rfl rfl (by decide) ?_
        refine TrOps.sem (OpSem.move (.inr rfl) rfl) rfl rfl (by decide) ?_
        refine TrOps.nil ?_
        refine At.seq ?_
        refine Tr.ret ?_
        refine At.pass_ret ?_
        exact At.ret rfl (.tmp rfl <| .nil) rfl (Le.bo (by first | rfl | (rw [bisR_1 hne]; rfl) | (exfalso; simp [h0] at c47; done) | (rw [h0]; rfl) | simp))
    · have hpl : part.length = nS a := by simp at c26; omega
      refine TrOps.gT rfl rfl rfl rfl c26 ?_
      refine TrOps.sem (OpSem.move (.inl rfl) rfl) rfl rfl (by decide) ?_
      refine TrOps.gT rfl rfl rfl rfl c26 ?_
      refine TrOps.sem (OpSem.lenL rfl rfl es23) rfl rfl (by decide) ?_
      refine TrOps.gT rfl rfl rfl rfl c26 ?_
      refine TrOps.sem (OpSem.fieldr rfl rfl fo25_0) rfl rfl (by decide) ?_
      refine TrOps.gT rfl rfl rfl rfl c26 ?_
      refine TrOps.sem (OpSem.loadb1 rfl rfl rfl vs3 rfl) rfl rfl (by decide) ?_
      refine TrOps.gT rfl rfl rfl rfl c26 ?_
      refine TrOps.sem (OpSem.bin rfl rfl rfl bneq) rfl rfl (by decide) ?_
      refine TrOps.sem (OpSem.pickF rfl rfl c26 rfl) rfl rfl (by decide) ?_
      refine TrOps.sem (OpSem.move (.inl rfl) rfl) rfl rfl (by decide) ?_
      refine TrOps.split (n := 33) rfl (fun c33 => ?_) (fun c33 => ?_)
      · refine TrOps.gF rfl rfl rfl rfl c33 rfl (by decide) ?_
        refine TrOps.gF rfl rfl rfl rfl c33 rfl (by decide) ?_
        refine TrOps.gF rfl rfl rfl rfl c33 rfl (by decide) ?_
        refine TrOps.sem (OpSem.pickT rfl rfl c33 rfl) rfl rfl (by decide) ?_
        refine TrOps.sem (OpSem.move (.inl rfl) rfl) rfl rfl (by decide) ?_
        refine TrOps.gF rfl rfl rfl rfl rfl rfl (by decide) ?_
        refine TrOps.gF rfl rfl rfl rfl rfl rfl (by decide) ?_
        refine TrOps.gF rfl rfl rfl rfl rfl rfl (by decide) ?_
        refine TrOps.gF rfl rfl rfl rfl rfl rfl (by decide) ?_
        refine TrOps.sem (OpSem.pickT rfl rfl rfl rfl) rfl rfl (by decide) ?_
        refine TrOps.nil ?_
        refine At.seq ?_
        refine Tr.condT rfl rfl ?_
        refine Tr.seq ?_
        refine Tr.region ?_
        refine TrOps.sem (OpSem.fieldr rfl rfl fo28_0) rfl rfl (by decide) ?_
        refine TrOps.sem (OpSem.loadb1 rfl rfl rfl vs3 rfl) rfl rfl (by decide) ?_
        refine TrOps.sem (OpSem.bin rfl rfl rfl beql) rfl rfl (by decide) ?_
        refine TrOps.sem (OpSem.move (.inl rfl) rfl) rfl rfl (by decide) ?_
        refine TrOps.split (n := 47) rfl (fun c47 => ?_) (fun c47 => ?_)
        · refine TrOps.gF rfl rfl rfl rfl c47 rfl (by decide) ?_
          refine TrOps.gF rfl rfl rfl rfl c47 rfl (by decide) ?_
          refine TrOps.gF rfl rfl rfl rfl c47 rfl (by decide) ?_
          refine TrOps.sem (OpSem.pickT rfl rfl c47 rfl) rfl rfl (by decide) ?_
          refine TrOps.sem (OpSem.move (.inr rfl) rfl) rfl rfl (by decide) ?_
          refine TrOps.nil ?_
          refine At.seq ?_
          refine Tr.ret ?_
          refine At.pass_ret ?_
          exact At.ret rfl (.tmp rfl <| .nil) rfl (Le.bo (by first | rfl | (rw [bisR_1 hne]; rfl) | (exfalso; simp [h0] at c47; done) | (rw [h0]; rfl) | simp))
        · refine TrOps.gT rfl rfl rfl rfl c47 ?_
          refine TrOps.sem (OpSem.move (.inl rfl) rfl) rfl rfl (by decide) ?_
          refine TrOps.gT rfl rfl rfl rfl c47 ?_
          refine TrOps.sem (OpSem.lenL rfl rfl es23) rfl rfl (by decide) ?_
          refine TrOps.gT rfl rfl rfl rfl c47 ?_
          refine TrOps.sem (OpSem.bin rfl rfl rfl beql) rfl rfl (by decide) ?_
          refine TrOps.sem (OpSem.pickF rfl rfl c47 rfl) rfl rfl (by decide) ?_
          refine TrOps.sem (OpSem.move (.inr rfl) rfl) rfl rfl (by decide) ?_
          refine TrOps.nil ?_
          refine At.seq ?_
          refine Tr.ret ?_
          refine At.pass_ret ?_
          exact At.ret rfl (.tmp rfl <| .nil) rfl (Le.bo (by first | rfl | (rw [bisR_1 hne]; rfl) | (exfalso; simp [h0] at c47; done) | (rw [h0]; rfl) | simp))
      · refine TrOps.gT rfl rfl rfl rfl c33 ?_
        refine TrOps.sem (OpSem.move (.inl rfl) rfl) rfl rfl (by decide) ?_
        refine TrOps.gT rfl rfl rfl rfl c33 ?_
        refine TrOps.sem (OpSem.call0 (Q_IsPartition_does part) rfl rfl rfl rfl (Les.refl _)) rfl rfl (by decide) ?_
        refine TrOps.gT rfl rfl rfl rfl c33 ?_
        refine TrOps.sem (OpSem.not rfl rfl) rfl rfl (by decide) ?_
        refine TrOps.sem (OpSem.pickF rfl rfl c33 rfl) rfl rfl (by decide) ?_
        refine TrOps.sem (OpSem.move (.inl rfl) rfl) rfl rfl (by decide) ?_
        refine TrOps.split (n := 38) rfl (fun c38 => ?_) (fun c38 => ?_)
        · refine TrOps.gF rfl rfl rfl rfl c38 rfl (by decide) ?_
          refine TrOps.gF rfl rfl rfl rfl c38 rfl (by decide) ?_
          refine TrOps.gF rfl rfl rfl rfl c38 rfl (by decide) ?_
          refine TrOps.gF rfl rfl rfl rfl c38 rfl (by decide) ?_
          refine TrOps.sem (OpSem.pickT rfl rfl c38 rfl) rfl rfl (by decide) ?_
          refine TrOps.nil ?_
          refine At.seq ?_
          refine Tr.condT rfl rfl ?_
          refine Tr.seq ?_
          refine Tr.region ?_
          refine TrOps.sem (OpSem.fieldr rfl rfl fo28_0) rfl rfl (by decide) ?_
          refine TrOps.sem (OpSem.loadb1 rfl rfl rfl vs3 rfl) rfl rfl (by decide) ?_
          refine TrOps.sem (OpSem.bin rfl rfl rfl beql) rfl rfl (by decide) ?_
          refine TrOps.sem (OpSem.move (.inl rfl) rfl) rfl rfl (by decide) ?_
          refine TrOps.split (n := 47) rfl (fun c47 => ?_) (fun c47 => ?_)
          · refine TrOps.gF rfl rfl rfl rfl c47 rfl (by decide) ?_
            refine TrOps.gF rfl rfl rfl rfl c47 rfl (by decide) ?_
            refine TrOps.gF rfl rfl rfl rfl c47 rfl (by decide) ?_
            refine TrOps.sem (OpSem.pickT rfl rfl c47 rfl) rfl rfl (by decide) ?_
            refine TrOps.sem (OpSem.move (.inr rfl) rfl) rfl rfl (by decide) ?_
            refine TrOps.nil ?_
            refine At.seq ?_
            refine Tr.ret ?_
            refine At.pass_ret ?_
            exact At.ret rfl (.tmp rfl <| .nil) rfl (Le.bo (by first | rfl | (rw [bisR_1 hne]; rfl) | (exfalso; simp [h0] at c47; done) | (rw [h0]; rfl) | simp))
          · refine TrOps.gT rfl rfl rfl rfl c47 ?_
            refine TrOps.sem (OpSem.move (.inl rfl) rfl) rfl rfl (by decide) ?_
            refine TrOps.gT rfl rfl rfl rfl c47 ?_
            refine TrOps.sem (OpSem.lenL rfl rfl es23) rfl rfl (by decide) ?_
            refine TrOps.gT rfl rfl rfl rfl c47 ?_
            refine TrOps.sem (OpSem.bin rfl rfl rfl beql) rfl rfl (by decide) ?_
            refine TrOps.sem (OpSem.pickF rfl rfl c47 rfl) rfl rfl (by decide) ?_
            refine TrOps.sem (OpSem.move (.inr rfl) rfl) rfl rfl (by decide) ?_
            refine TrOps.nil ?_
            refine At.seq ?_
            refine Tr.ret ?_
            refine At.pass_ret ?_
            exact At.ret rfl (.tmp rfl <| .nil) rfl (Le.bo (by first | rfl | (rw [bisR_1 hne]; rfl) | (exfalso; simp [h0] at c47; done) | (rw [h0]; rfl) | simp))
        · refine TrOps.gT rfl rfl rfl rfl c38 ?_
          refine TrOps.sem (OpSem.loadbN rfl rfl rfl vs25 (by first | decide | simp)) rfl rfl (by decide) ?_
          refine TrOps.gT rfl rfl rfl rfl c38 ?_
          refine TrOps.sem (OpSem.move (.inl rfl) rfl) rfl rfl (by decide) ?_
          refine TrOps.gT rfl rfl rfl rfl c38 ?_
          refine TrOps.sem (OpSem.call0 (Q_IsBisimulation_does a part hA hpl) rfl rfl rfl rfl (Les.refl _)) rfl rfl (by decide) ?_
          refine TrOps.gT rfl rfl rfl rfl c38 ?_
          refine TrOps.sem (OpSem.not rfl rfl) rfl rfl (by decide) ?_
          refine TrOps.sem (OpSem.pickF rfl rfl c38 rfl) rfl rfl (by decide) ?_
          refine TrOps.nil ?_
          refine At.seq ?_
          refine Tr.cond rfl (fun c43 => ?_) (fun c43 => ?_)
          · refine Tr.seq ?_
            refine Tr.region ?_
            refine TrOps.sem (OpSem.fieldr rfl rfl fo28_0) rfl rfl (by decide) ?_
            refine TrOps.sem (OpSem.loadb1 rfl rfl rfl vs3 rfl) rfl rfl (by decide) ?_
            refine TrOps.sem (OpSem.bin rfl rfl rfl beql) rfl rfl (by decide) ?_
            refine TrOps.sem (OpSem.move (.inl rfl) rfl) rfl rfl (by decide) ?_
            refine TrOps.split (n := 47) rfl (fun c47 => ?_) (fun c47 => ?_)
            · refine TrOps.gF rfl rfl rfl rfl c47 rfl (by decide) ?_
              refine TrOps.gF rfl rfl rfl rfl c47 rfl (by decide) ?_
              refine TrOps.gF rfl rfl rfl rfl c47 rfl (by decide) ?_
              refine TrOps.sem (OpSem.pickT rfl rfl c47 rfl) rfl rfl (by decide) ?_
              refine TrOps.sem (OpSem.move (.inr rfl) rfl) rfl rfl (by decide) ?_
              refine TrOps.nil ?_
              refine At.seq ?_
              refine Tr.ret ?_
              refine At.pass_ret ?_
              exact At.ret rfl (.tmp rfl <| .nil) rfl (Le.bo (by first | rfl | (rw [bisR_1 hne]; rfl) | (exfalso; simp [h0] at c47; done) | (rw [h0]; rfl) | simp))
            · refine TrOps.gT rfl rfl rfl rfl c47 ?_
              refine TrOps.sem (OpSem.move (.inl rfl) rfl) rfl rfl (by decide) ?_
              refine TrOps.gT rfl rfl rfl rfl c47 ?_
              refine TrOps.sem (OpSem.lenL rfl rfl es23) rfl rfl (by decide) ?_
              refine TrOps.gT rfl rfl rfl rfl c47 ?_
              refine TrOps.sem (OpSem.bin rfl rfl rfl beql) rfl rfl (by decide) ?_
              refine TrOps.sem (OpSem.pickF rfl rfl c47 rfl) rfl rfl (by decide) ?_
              refine TrOps.sem (OpSem.move (.inr rfl) rfl) rfl rfl (by decide) ?_
              refine TrOps.nil ?_
              refine At.seq ?_
              refine Tr.ret ?_
              refine At.pass_ret ?_
              exact At.ret rfl (.tmp rfl <| .nil) rfl (Le.bo (by first | rfl | (rw [bisR_1 hne]; rfl) | (exfalso; simp [h0] at c47; done) | (rw [h0]; rfl) | simp))
          · have hB : IsB a part := by simpa using c43
            refine Tr.skip ?_
            refine At.seq ?_
            refine Tr.seq ?_
            refine Tr.seq ?_
            refine Tr.region ?_
            refine TrOps.sem (OpSem.move (.inr rfl) rfl) rfl rfl (by decide) ?_
            refine TrOps.nil ?_
            refine At.seq ?_
            refine Tr.block ?_
            refine Tr.loop (X := Nat) (fun x => x ≤ (bisR a).length) (fun x => [(1, .d (ints part)), (5, .d (ints (bisR a))), (7, I (x))]) (fun x => []) (fun x => (bisR a).length - x) 0 (by omega) ?_ ?_
            · exact .slot rfl (.refl _) <| .slot rfl (.refl _) <| .slot rfl (Le.of_eq (by simp)) <| .nil
            · rintro x hxl
              refine Tr.seq ?_
              refine Tr.seq ?_
              refine Tr.region ?_
              refine TrOps.sem (OpSem.move (.inl rfl) rfl) rfl rfl (by decide) ?_
              refine TrOps.sem (OpSem.move (.inl rfl) rfl) rfl rfl (by decide) ?_
              refine TrOps.sem (OpSem.lenL rfl rfl es23) rfl rfl (by decide) ?_
              refine TrOps.sem (OpSem.bin rfl rfl rfl blss) rfl rfl (by decide) ?_
              refine TrOps.nil ?_
              refine At.seq ?_
              refine Tr.cond rfl (fun c55 => ?_) (fun c55 => ?_)
              · have hx : x < (bisR a).length := by simpa using c55
                refine Tr.skip ?_
                refine At.seq ?_
                refine Tr.seq ?_
                refine Tr.block ?_
                refine Tr.seq ?_
                refine Tr.region ?_
                refine TrOps.sem (OpSem.move (.inr rfl) rfl) rfl rfl (by decide) ?_
                refine TrOps.nil ?_
                refine At.seq ?_
                refine Tr.block ?_
                refine Tr.loop (X := Nat) (fun y => y ≤ x) (fun y => [(1, .d (ints part)), (5, .d (ints (bisR a))), (7, I (x)), (8, I (y))]) (fun y => []) (fun y => x - y) 0 (by omega) ?_ ?_
                · exact .slot rfl (.refl _) <| .slot rfl (.refl _) <| .slot rfl (.refl _) <| .slot rfl (Le.of_eq (by simp)) <| .nil
                · rintro y hyl
                  refine Tr.seq ?_
                  refine Tr.seq ?_
                  refine Tr.region ?_
                  refine TrOps.sem (OpSem.move (.inl rfl) rfl) rfl rfl (by decide) ?_
                  refine TrOps.sem (OpSem.move (.inl rfl) rfl) rfl rfl (by decide) ?_
                  refine TrOps.sem (OpSem.bin rfl rfl rfl blss) rfl rfl (by decide) ?_
                  refine TrOps.nil ?_
                  refine At.seq ?_
                  refine Tr.cond rfl (fun c60 => ?_) (fun c60 => ?_)
                  · have hy : y < x := by simpa using c60
                    refine Tr.skip ?_
                    refine At.seq ?_
                    refine Tr.seq ?_
                    refine Tr.block ?_
                    refine Tr.seq ?_
                    refine PC.start [] ?_
                    refine PC.sem (OpSem.move (.inl rfl) rfl) rfl rfl ?_
                    refine PC.sem (OpSem.move (.inl rfl) rfl) rfl rfl ?_
                    refine PC.sem (OpSem.idxL rfl rfl rfl es23 (by omega) (by omega)) rfl rfl ?_
                    refine PC.sem (OpSem.load1 rfl rfl vs3 rfl) rfl rfl ?_
                    refine PC.sem (OpSem.move (.inl rfl) rfl) rfl rfl ?_
                    refine PC.sem (OpSem.move (.inl rfl) rfl) rfl rfl ?_
                    refine PC.sem (OpSem.idxL rfl rfl rfl es23 (by omega) (by omega)) rfl rfl ?_
                    refine PC.sem (OpSem.load1 rfl rfl vs3 rfl) rfl rfl ?_
                    refine PC.sem (OpSem.bin rfl rfl rfl beql) rfl rfl ?_
                    refine PC.sem (OpSem.move (.inl rfl) rfl) rfl rfl ?_
                    refine PC.split (n := 72) rfl (fun c72 => ?_) (fun c72 => ?_)
                    · have hsh : nth (bisR a) x = nth (bisR a) y := shr_top h0 hB hx (by omega) (by simpa using c72)
                      refine PC.gT (OpSem.move (.inl rfl) rfl) rfl rfl rfl rfl c72 rfl ?_
                      refine PC.gT (OpSem.move (.inl rfl) rfl) rfl rfl rfl rfl c72 rfl ?_
                      refine PC.gT (OpSem.idxL rfl rfl rfl es23 (by omega) (by omega)) rfl rfl rfl rfl c72 rfl ?_
                      refine PC.gT (OpSem.load1 rfl rfl vs3 rfl) rfl rfl rfl rfl c72 rfl ?_
                      refine PC.gT (OpSem.move (.inl rfl) rfl) rfl rfl rfl rfl c72 rfl ?_
                      refine PC.gT (OpSem.move (.inl rfl) rfl) rfl rfl rfl rfl c72 rfl ?_
                      refine PC.gT (OpSem.idxL rfl rfl rfl es23 (by omega) (by omega)) rfl rfl rfl rfl c72 rfl ?_
                      refine PC.gT (OpSem.load1 rfl rfl vs3 rfl) rfl rfl rfl rfl c72 rfl ?_
                      refine PC.done0 mixed (by kernel_rfl) (by kernel_rfl) (by kernel_rfl) (by kernel_rfl) (by kernel_rfl) ?_
                      refine TrOps.gT rfl rfl rfl rfl c72 ?_
                      refine TrOps.sem (OpSem.bin rfl rfl rfl bneq) rfl rfl (by decide) ?_
                      refine TrOps.sem (OpSem.pickT rfl rfl c72 rfl) rfl rfl (by decide) ?_
                      refine TrOps.nil ?_
                      refine At.seq ?_
                      refine Tr.condF rfl (by rw [hsh]; simp) ?_
                      refine Tr.skip ?_
                      refine At.block_normal ?_
                      refine At.seq ?_
                      refine Tr.region ?_
                      refine TrOps.sem (OpSem.move (.inl rfl) rfl) rfl rfl (by decide) ?_
                      refine TrOps.sem (OpSem.bin rfl rfl rfl (badd (by omega) (by omega))) rfl rfl (by decide) ?_
                      refine TrOps.sem (OpSem.move (.inr rfl) rfl) rfl rfl (by decide) ?_
                      refine TrOps.nil ?_
                      refine At.again (y + 1) (by omega) ?_ (by omega)
                      exact .slot rfl (.refl _) <| .slot rfl (.refl _) <| .slot rfl (.refl _) <| .slot rfl (Le.of_eq (by simp)) <| .nil
                    · refine PC.gF rfl rfl rfl rfl c72 rfl ?_
                      refine PC.gF rfl rfl rfl rfl c72 rfl ?_
                      refine PC.gF rfl rfl rfl rfl c72 rfl ?_
                      refine PC.gF rfl rfl rfl rfl c72 rfl ?_
                      refine PC.gF rfl rfl rfl rfl c72 rfl ?_
                      refine PC.gF rfl rfl rfl rfl c72 rfl ?_
                      refine PC.gF rfl rfl rfl rfl c72 rfl ?_
                      refine PC.gF rfl rfl rfl rfl c72 rfl ?_
                      refine PC.done0 mixed (by kernel_rfl) (by kernel_rfl) (by kernel_rfl) (by kernel_rfl) (by kernel_rfl) ?_
                      refine TrOps.gF rfl rfl rfl rfl c72 rfl (by decide) ?_
                      refine TrOps.sem (OpSem.pickF rfl rfl c72 rfl) rfl rfl (by decide) ?_
                      refine TrOps.nil ?_
                      refine At.seq ?_
                      refine Tr.condF rfl rfl ?_
                      refine Tr.skip ?_
                      refine At.block_normal ?_
                      refine At.seq ?_
                      refine Tr.region ?_
                      refine TrOps.sem (OpSem.move (.inl rfl) rfl) rfl rfl (by decide) ?_
                      refine TrOps.sem (OpSem.bin rfl rfl rfl (badd (by omega) (by omega))) rfl rfl (by decide) ?_
                      refine TrOps.sem (OpSem.move (.inr rfl) rfl) rfl rfl (by decide) ?_
                      refine TrOps.nil ?_
                      refine At.again (y + 1) (by omega) ?_ (by omega)
                      exact .slot rfl (.refl _) <| .slot rfl (.refl _) <| .slot rfl (.refl _) <| .slot rfl (Le.of_eq (by simp)) <| .nil
                  · refine Tr.exit ?_
                    refine At.pass_exit ?_
                    refine At.pass_exit ?_
                    refine At.block_same ?_
                    refine At.block_normal ?_
                    refine At.seq ?_
                    refine Tr.region ?_
                    refine TrOps.sem (OpSem.move (.inl rfl) rfl) rfl rfl (by decide) ?_
                    refine TrOps.sem (OpSem.bin rfl rfl rfl (badd (by omega) (by omega))) rfl rfl (by decide) ?_
                    refine TrOps.sem (OpSem.move (.inr rfl) rfl) rfl rfl (by decide) ?_
                    refine TrOps.nil ?_
                    refine At.again (x + 1) (by omega) ?_ (by omega)
                    exact .slot rfl (.refl _) <| .slot rfl (.refl _) <| .slot rfl (Le.of_eq (by simp)) <| .nil
              · refine Tr.exit ?_
                refine At.pass_exit ?_
                refine At.pass_exit ?_
                refine At.block_same ?_
                refine At.seq ?_
                refine Tr.seq ?_
                refine Tr.region ?_
                refine TrOps.sem (OpSem.move (.inr rfl) rfl) rfl rfl (by decide) ?_
                refine TrOps.nil ?_
                refine At.seq ?_
                refine Tr.ret ?_
                exact At.ret rfl (.tmp rfl <| .nil) rfl (Le.bo (by first | rfl | (rw [bisR_1 hne]; rfl) | (exfalso; simp [h0] at c47; done) | (rw [h0]; rfl) | simp))

end Go.Proofs.Ythgcnfolgbaemaa
end
