/- Walks, written by gen.py out of hints. -/
import Derived.Test.YtofjjeogoobopaaTypes
import Derived.Test.YtofjjeogoobopaaRank
import Derived.Test.YtofjjeogoobopaaPotB
set_option linter.unusedVariables false
set_option linter.unusedSimpArgs false
namespace Go.Proofs.Ytofjjeogoobopaa
open Go.Eng
set_option maxRecDepth 10000
set_option maxHeartbeats 1000000

theorem addW_pot (m : Multi) (w : List (List Int)) (i : Int) : addW (validate m) m.sizes w i = potFault m w i := by
  unfold addW potFault
  by_cases h : (validate m).1 = 0
  · have e := validate_code h
    rw [if_pos e]
    unfold wfault
    by_cases hw : wcode m.sizes w = 0
    · rw [if_neg (fun hh => hh.2 hw), if_pos hw, e]
    · rw [if_pos ⟨h, hw⟩, if_neg hw]
  · rw [if_neg (fun hh => h hh.1), if_neg (fun e => h (by rw [e]))]
def goodS (g : Int) (l : List Int) (k : Nat) : Bool := decide (g ≤ 0) && decide (∀ i : Nat, i < k → 0 ≤ nth l i)
theorem goodS_0 {g : Int} {l : List Int} : decide (g ≤ 0) = goodS g l 0 := by simp [goodS]
theorem goodS_t {g : Int} {l : List Int} {k : Nat} (h : goodS g l k = true) : decide (0 ≤ nth l k) = goodS g l (k + 1) := by
  simp only [goodS, Bool.and_eq_true, decide_eq_true_eq] at h ⊢
  rw [Bool.eq_iff_iff]
  simp only [Bool.and_eq_true, decide_eq_true_eq]
  exact ⟨fun hk => ⟨h.1, all_succ h.2 hk⟩, fun hk => hk.2 k (by omega)⟩
theorem goodS_f {g : Int} {l : List Int} {k : Nat} (h : goodS g l k = false) : false = goodS g l (k + 1) := by
  symm
  rw [← Bool.not_eq_true] at h ⊢
  intro h'
  apply h
  simp only [goodS, Bool.and_eq_true, decide_eq_true_eq] at h' ⊢
  exact ⟨h'.1, fun i hi => h'.2 i (by omega)⟩
theorem goodS_adm {m : Multi} {w : List (List Int)} (h : (slackRes m w).2.2 = (0, 0)) : adm m w = goodS (slackRes m w).2.1 (slackRes m w).1 (slackRes m w).1.length := by
  unfold adm goodS
  rw [decide_eq_true h, Bool.true_and]
  congr 1
  rw [Bool.eq_iff_iff, Bool.not_eq_true', ← Bool.not_eq_true, any_iff, decide_eq_true_eq]
  constructor
  · intro hh i hi
    exact Decidable.byContradiction fun hc => hh ⟨i, hi, by simp; omega⟩
  · rintro hh ⟨i, hi, hp⟩
    have := hh i hi
    simp at hp
    omega

theorem law_PotentialSlackMatchesSpec_does (m : Multi) (w : List (List Int)) : Does Try.prog false 3 [multi m, .d (rows w)] (Bo true) := by
  have hsl := slack_len m w
  refine Does.of_body Try.func3 rfl rfl (by simp) Try.call3 (fun w0 O0 => ?_)
  refine Tr.lenG (n := 0) (i := 0) rfl rfl (fun len0_0 => ?_)
  refine Tr.lenG (n := 0) (i := 1) rfl rfl (fun len0_1 => ?_)
  refine Tr.lenG (n := 0) (i := 2) rfl rfl (fun len0_2 => ?_)
  refine Tr.lenG (n := 0) (i := 3) rfl rfl (fun len0_3 => ?_)
  refine Tr.lenLe (n := 1) rfl (fun len1 => ?_)
  refine Tr.seq ?_
  refine Tr.region ?_
  refine TrOps.semM (OpSem.box 2 rfl rfl rfl rfl) rfl rfl (by decide) ?_
  refine TrOps.sem (OpSem.move (.inr rfl) rfl) rfl rfl (by decide) ?_
  refine TrOps.nil ?_
  refine At.seq ?_
  refine Tr.seq ?_
  refine Tr.seq ?_
  refine Tr.region ?_
  refine TrOps.sem (OpSem.call0 (law_potentialExample_does) rfl rfl rfl rfl (Les.refl _)) rfl rfl (by decide) ?_
  refine TrOps.sem (OpSem.not rfl rfl) rfl rfl (by decide) ?_
  refine TrOps.nil ?_
  refine At.seq ?_
  refine Tr.condF rfl rfl ?_
  refine Tr.skip ?_
  refine At.seq ?_
  refine Tr.seq ?_
  refine Tr.region ?_
  refine TrOps.sem (OpSem.loadbN rfl rfl rfl vs26 (by first | decide | simp)) rfl rfl (by decide) ?_
  refine TrOps.sem (OpSem.move (.inl rfl) rfl) rfl rfl (by decide) ?_
  refine TrOps.sem (OpSem.call0 (potential_Slack_does ..) rfl rfl rfl rfl (Les.refl _)) rfl rfl (by decide) ?_
  refine TrOps.sem (OpSem.move (.inl rfl) rfl) rfl rfl (by decide) ?_
  refine TrOps.sem (OpSem.extract rfl rfl rfl) rfl rfl (by decide) ?_
  refine TrOps.sem (OpSem.extract rfl rfl rfl) rfl rfl (by decide) ?_
  refine TrOps.sem (OpSem.extract rfl rfl rfl) rfl rfl (by decide) ?_
  refine TrOps.semM (OpSem.alloc 7 rfl zc30 rfl) rfl rfl (by decide) ?_
  refine TrOps.sem (OpSem.move (.inr rfl) rfl) rfl rfl (by decide) ?_
  refine TrOps.sem (OpSem.move (.inr rfl) rfl) rfl rfl (by decide) ?_
  refine TrOps.storeb rfl rfl rfl rfl rfl rfl rfl vs30 (by first | decide | simp) ?_
  refine TrOps.nil ?_
  refine At.seq ?_
  refine Tr.seq ?_
  refine Tr.region ?_
  refine TrOps.sem (OpSem.loadbN rfl rfl rfl vs26 (by first | decide | simp)) rfl rfl (by decide) ?_
  refine TrOps.sem (OpSem.move (.inl rfl) rfl) rfl rfl (by decide) ?_
  refine TrOps.sem (OpSem.call0 (potential_Admissible_does ..) rfl rfl rfl rfl (Les.refl _)) rfl rfl (by decide) ?_
  refine TrOps.sem (OpSem.move (.inl rfl) rfl) rfl rfl (by decide) ?_
  refine TrOps.sem (OpSem.extract rfl rfl rfl) rfl rfl (by decide) ?_
  refine TrOps.sem (OpSem.extract rfl rfl rfl) rfl rfl (by decide) ?_
  refine TrOps.semM (OpSem.alloc 9 rfl zc30 rfl) rfl rfl (by decide) ?_
  refine TrOps.sem (OpSem.move (.inr rfl) rfl) rfl rfl (by decide) ?_
  refine TrOps.storeb rfl rfl rfl rfl rfl rfl rfl vs30 (by first | decide | simp) ?_
  refine TrOps.nil ?_
  refine At.seq ?_
  refine Tr.seq ?_
  refine Tr.seq ?_
  refine PC.start ?_
  refine PC.sem (OpSem.loadbN rfl rfl rfl vs26 (by first | decide | simp)) rfl rfl ?_
  refine PC.sem (OpSem.call0 (R_MultiFault_does ..) rfl rfl rfl rfl (Les.refl _)) rfl rfl ?_
  refine PC.sem (OpSem.loadbN rfl rfl rfl vs26 (by first | decide | simp)) rfl rfl ?_
  refine PC.sem (OpSem.move (.inl rfl) rfl) rfl rfl ?_
  refine PC.sem (OpSem.call0 (law_weightsFault_does (validate m) _ _ _ (fun h => validate_sizes h)) rfl rfl rfl rfl (Les.refl _)) rfl rfl ?_
  refine PC.semM (OpSem.alloc 10 rfl zc30 rfl) rfl rfl ?_
  refine PC.done1 10 (.box [I (0), I (0)]) mixed (by kernel_rfl) (by kernel_rfl) (by kernel_rfl) (by kernel_rfl) ?_
  refine TrOps.storeb rfl rfl rfl rfl rfl rfl rfl vs30 (by first | decide | simp) ?_
  refine TrOps.nil ?_
  refine At.seq ?_
  refine Tr.seq ?_
  refine Tr.region ?_
  refine TrOps.sem (OpSem.fieldr rfl rfl fo30_0) rfl rfl (by decide) ?_
  refine TrOps.sem (OpSem.loadb1 rfl rfl rfl vs3 rfl) rfl rfl (by decide) ?_
  refine TrOps.sem (OpSem.bin rfl rfl rfl bneq) rfl rfl (by decide) ?_
  refine TrOps.nil ?_
  refine At.seq ?_
  refine Tr.cond rfl (fun c35 => ?_) (fun c35 => ?_)
  · have hc : (potFault m w (-8)).1 ≠ 0 := by rw [addW_pot] at c35; simpa using c35
    have he := slackRes_1 (m := m) (w := w) (fun h => hc h.1)
    have hne : potFault m w (-8) ≠ (0, 0) := fun e => hc (by rw [e])
    refine Tr.seq ?_
    refine Tr.region ?_
    refine TrOps.sem (OpSem.loadbN rfl rfl rfl vs30 (by first | decide | simp)) rfl rfl (by decide) ?_
    refine TrOps.sem (OpSem.loadbN rfl rfl rfl vs30 (by first | decide | simp)) rfl rfl (by decide) ?_
    refine TrOps.sem (OpSem.eqS2 rfl rfl rfl io30) rfl rfl (by decide) ?_
    refine TrOps.sem (OpSem.move (.inl rfl) rfl) rfl rfl (by decide) ?_
    refine TrOps.gT rfl rfl rfl rfl (by rw [addW_pot, he]; simp) ?_
    refine TrOps.sem (OpSem.loadbN rfl rfl rfl vs30 (by first | decide | simp)) rfl rfl (by decide) ?_
    refine TrOps.gT rfl rfl rfl rfl (by rw [addW_pot, he]; simp) ?_
    refine TrOps.sem (OpSem.loadbN rfl rfl rfl vs30 (by first | decide | simp)) rfl rfl (by decide) ?_
    refine TrOps.gT rfl rfl rfl rfl (by rw [addW_pot, he]; simp) ?_
    refine TrOps.sem (OpSem.eqS2 rfl rfl rfl io30) rfl rfl (by decide) ?_
    refine TrOps.sem (OpSem.pickT rfl rfl (by rw [addW_pot, he]; simp) rfl) rfl rfl (by decide) ?_
    refine TrOps.sem (OpSem.move (.inl rfl) rfl) rfl rfl (by decide) ?_
    refine TrOps.gT rfl rfl rfl rfl (by rw [addW_pot, he]; simp) ?_
    refine TrOps.sem (OpSem.move (.inl rfl) rfl) rfl rfl (by decide) ?_
    refine TrOps.gT rfl rfl rfl rfl (by rw [addW_pot, he]; simp) ?_
    refine TrOps.sem (OpSem.lenL rfl rfl es22) rfl rfl (by decide) ?_
    refine TrOps.gT rfl rfl rfl rfl (by rw [addW_pot, he]; simp) ?_
    refine TrOps.sem (OpSem.move (.inl rfl) rfl) rfl rfl (by decide) ?_
    refine TrOps.gT rfl rfl rfl rfl (by rw [addW_pot, he]; simp) ?_
    refine TrOps.sem (OpSem.bin rfl rfl rfl (badd (by rw [he]; simp) (by rw [he]; simp))) rfl rfl (by decide) ?_
    refine TrOps.gT rfl rfl rfl rfl (by rw [addW_pot, he]; simp) ?_
    refine TrOps.sem (OpSem.bin rfl rfl rfl beql) rfl rfl (by decide) ?_
    refine TrOps.sem (OpSem.pickT rfl rfl (by rw [addW_pot, he]; simp) rfl) rfl rfl (by decide) ?_
    refine TrOps.sem (OpSem.move (.inl rfl) rfl) rfl rfl (by decide) ?_
    refine TrOps.gT rfl rfl rfl rfl (by rw [he]; rfl) ?_
    refine TrOps.sem (OpSem.move (.inl rfl) rfl) rfl rfl (by decide) ?_
    refine TrOps.gT rfl rfl rfl rfl (by rw [he]; rfl) ?_
    refine TrOps.sem (OpSem.not rfl rfl) rfl rfl (by decide) ?_
    refine TrOps.sem (OpSem.pickT rfl rfl (by rw [he]; rfl) rfl) rfl rfl (by decide) ?_
    refine TrOps.sem (OpSem.move (.inr rfl) rfl) rfl rfl (by decide) ?_
    refine TrOps.nil ?_
    refine At.seq ?_
    refine Tr.ret ?_
    refine At.pass_ret ?_
    exact At.ret rfl (.tmp rfl <| .nil) rfl (Le.bo (by simp [adm, he, hne]))
  · have hpf : potFault m w (-8) = (0, 0) := potFault_code (by rw [addW_pot] at c35; simpa using c35)
    obtain ⟨hv, hw⟩ := potFault_ok (m := m) (w := w) (i := -8) (by rw [hpf]; exact ⟨rfl, rfl⟩)
    have he := slackRes_2 (m := m) (w := w) (by rw [hpf]; exact ⟨rfl, rfl⟩)
    have hz : (slackRes m w).2.2 = (0, 0) := by rw [he]
    have hlen : (slackRes m w).1.length = m.ops.length := by rw [he]; simp
    have hgo : (slackRes m w).2.1 = greatGoal m w (ranks m.sizes).toNat := by rw [greatGoal_eq hv hw, he]
    have hgi := goalMax_in hv hw
    have hol := hv.opsLen
    refine Tr.skip ?_
    refine At.seq ?_
    refine Tr.seq ?_
    refine Tr.seq ?_
    refine Tr.region ?_
    refine TrOps.sem (OpSem.loadbN rfl rfl rfl vs26 (by first | decide | simp)) rfl rfl (by decide) ?_
    refine TrOps.sem (OpSem.call0 (law_small_does m hv) rfl rfl rfl rfl (Les.refl _)) rfl rfl (by decide) ?_
    refine TrOps.sem (OpSem.not rfl rfl) rfl rfl (by decide) ?_
    refine TrOps.nil ?_
    refine At.seq ?_
    refine Tr.cond rfl (fun c57 => ?_) (fun c57 => ?_)
    · refine Tr.seq ?_
      refine Tr.region ?_
      refine TrOps.sem (OpSem.fieldr rfl rfl fo30_0) rfl rfl (by decide) ?_
      refine TrOps.sem (OpSem.loadb1 rfl rfl rfl vs3 rfl) rfl rfl (by decide) ?_
      refine TrOps.sem (OpSem.bin rfl rfl rfl beql) rfl rfl (by decide) ?_
      refine TrOps.sem (OpSem.move (.inl rfl) rfl) rfl rfl (by decide) ?_
      refine TrOps.gT rfl rfl rfl rfl (by simp [hz]) ?_
      refine TrOps.sem (OpSem.fieldr rfl rfl fo30_0) rfl rfl (by decide) ?_
      refine TrOps.gT rfl rfl rfl rfl (by simp [hz]) ?_
      refine TrOps.sem (OpSem.loadb1 rfl rfl rfl vs3 rfl) rfl rfl (by decide) ?_
      refine TrOps.gT rfl rfl rfl rfl (by simp [hz]) ?_
      refine TrOps.sem (OpSem.bin rfl rfl rfl beql) rfl rfl (by decide) ?_
      refine TrOps.sem (OpSem.pickT rfl rfl (by simp [hz]) rfl) rfl rfl (by decide) ?_
      refine TrOps.sem (OpSem.move (.inr rfl) rfl) rfl rfl (by decide) ?_
      refine TrOps.nil ?_
      refine At.seq ?_
      refine Tr.ret ?_
      refine At.pass_ret ?_
      exact At.ret rfl (.tmp rfl <| .nil) rfl (Le.bo (by simp [hz]))
    · refine Tr.skip ?_
      refine At.seq ?_
      refine Tr.seq ?_
      refine Tr.seq ?_
      refine Tr.region ?_
      refine TrOps.sem (OpSem.fieldr rfl rfl fo30_0) rfl rfl (by decide) ?_
      refine TrOps.sem (OpSem.loadb1 rfl rfl rfl vs3 rfl) rfl rfl (by decide) ?_
      refine TrOps.sem (OpSem.bin rfl rfl rfl bneq) rfl rfl (by decide) ?_
      refine TrOps.sem (OpSem.move (.inl rfl) rfl) rfl rfl (by decide) ?_
      refine TrOps.gT rfl rfl rfl rfl (by simp [hz]) ?_
      refine TrOps.sem (OpSem.fieldr rfl rfl fo30_0) rfl rfl (by decide) ?_
      refine TrOps.gT rfl rfl rfl rfl (by simp [hz]) ?_
      refine TrOps.sem (OpSem.loadb1 rfl rfl rfl vs3 rfl) rfl rfl (by decide) ?_
      refine TrOps.gT rfl rfl rfl rfl (by simp [hz]) ?_
      refine TrOps.sem (OpSem.bin rfl rfl rfl bneq) rfl rfl (by decide) ?_
      refine TrOps.sem (OpSem.pickF rfl rfl (by simp [hz]) rfl) rfl rfl (by decide) ?_
      refine TrOps.sem (OpSem.move (.inl rfl) rfl) rfl rfl (by decide) ?_
      refine TrOps.gT rfl rfl rfl rfl (by simp [hz]) ?_
      refine TrOps.sem (OpSem.move (.inl rfl) rfl) rfl rfl (by decide) ?_
      refine TrOps.gT rfl rfl rfl rfl (by simp [hz]) ?_
      refine TrOps.sem (OpSem.lenL rfl rfl es22) rfl rfl (by decide) ?_
      refine TrOps.gT rfl rfl rfl rfl (by simp [hz]) ?_
      refine TrOps.sem (OpSem.fieldr rfl rfl fo26_3) rfl rfl (by decide) ?_
      refine TrOps.gT rfl rfl rfl rfl (by simp [hz]) ?_
      refine TrOps.sem (OpSem.loadb1 rfl rfl rfl vs24 rfl) rfl rfl (by decide) ?_
      refine TrOps.gT rfl rfl rfl rfl (by simp [hz]) ?_
      refine TrOps.sem (OpSem.lenL rfl rfl es24) rfl rfl (by decide) ?_
      refine TrOps.gT rfl rfl rfl rfl (by simp [hz]) ?_
      refine TrOps.sem (OpSem.bin rfl rfl rfl bneq) rfl rfl (by decide) ?_
      refine TrOps.sem (OpSem.pickF rfl rfl (by simp [hz]) rfl) rfl rfl (by decide) ?_
      refine TrOps.sem (OpSem.move (.inl rfl) rfl) rfl rfl (by decide) ?_
      refine TrOps.gT rfl rfl rfl rfl (by simp [hlen]) ?_
      refine TrOps.sem (OpSem.move (.inl rfl) rfl) rfl rfl (by decide) ?_
      refine TrOps.gT rfl rfl rfl rfl (by simp [hlen]) ?_
      refine TrOps.sem (OpSem.loadbN rfl rfl rfl vs26 (by first | decide | simp)) rfl rfl (by decide) ?_
      refine TrOps.gT rfl rfl rfl rfl (by simp [hlen]) ?_
      refine TrOps.sem (OpSem.move (.inl rfl) rfl) rfl rfl (by decide) ?_
      refine TrOps.gT rfl rfl rfl rfl (by simp [hlen]) ?_
      refine TrOps.sem (OpSem.call0 (Q_GreatestGoal_does m w hv hw) rfl rfl rfl rfl (Les.refl _)) rfl rfl (by decide) ?_
      refine TrOps.gT rfl rfl rfl rfl (by simp [hlen]) ?_
      refine TrOps.sem (OpSem.bin rfl rfl rfl bneq) rfl rfl (by decide) ?_
      refine TrOps.sem (OpSem.pickF rfl rfl (by simp [hlen]) rfl) rfl rfl (by decide) ?_
      refine TrOps.nil ?_
      refine At.seq ?_
      refine Tr.condF rfl (by simp [hgo]) ?_
      refine Tr.skip ?_
      refine At.seq ?_
      refine Tr.seq ?_
      refine Tr.region ?_
      refine TrOps.sem (OpSem.move (.inl rfl) rfl) rfl rfl (by decide) ?_
      refine TrOps.sem (OpSem.bin rfl rfl rfl bleq) rfl rfl (by decide) ?_
      refine TrOps.sem (OpSem.move (.inr rfl) rfl) rfl rfl (by decide) ?_
      refine TrOps.nil ?_
      refine At.seq ?_
      refine Tr.seq ?_
      refine Tr.seq ?_
      refine Tr.region ?_
      refine TrOps.sem (OpSem.move (.inr rfl) rfl) rfl rfl (by decide) ?_
      refine TrOps.nil ?_
      refine At.seq ?_
      refine Tr.block ?_
      refine Tr.loop (X := Nat) (fun k => k ≤ (slackRes m w).1.length) (fun k => [(1, .d (rows w)), (2, .r 2 0), (5, .d (ints ((slackRes m w).1))), (8, Bo (adm m w)), (11, Bo (goodS (slackRes m w).2.1 (slackRes m w).1 k)), (12, I (k))]) (fun k => [(2, .box [.d (ints m.sizes), .d (ints m.init), .d (asgs m.goal), .d (opsD m.ops)])]) (fun k => (slackRes m w).1.length - k) 0 (by omega) ?_ ?_
      · exact .slot rfl (.refl _) <| .slot rfl (.refl _) <| .slot rfl (.refl _) <| .slot rfl (.refl _) <| .slot rfl (Le.bo goodS_0) <| .slot rfl (Le.of_eq (by simp)) <| .mem rfl <| .nil
      · rintro k hkl
        refine Tr.seq ?_
        refine Tr.seq ?_
        refine Tr.region ?_
        refine TrOps.sem (OpSem.move (.inl rfl) rfl) rfl rfl (by decide) ?_
        refine TrOps.sem (OpSem.move (.inl rfl) rfl) rfl rfl (by decide) ?_
        refine TrOps.sem (OpSem.lenL rfl rfl es22) rfl rfl (by decide) ?_
        refine TrOps.sem (OpSem.bin rfl rfl rfl blss) rfl rfl (by decide) ?_
        refine TrOps.nil ?_
        refine At.seq ?_
        refine Tr.cond rfl (fun c94 => ?_) (fun c94 => ?_)
        · have hk : k < (slackRes m w).1.length := by simpa using c94
          refine Tr.skip ?_
          refine At.seq ?_
          refine Tr.seq ?_
          refine Tr.block ?_
          refine Tr.seq ?_
          refine Tr.seq ?_
          refine PC.start ?_
          refine PC.sem (OpSem.move (.inl rfl) rfl) rfl rfl ?_
          refine PC.sem (OpSem.move (.inl rfl) rfl) rfl rfl ?_
          refine PC.sem (OpSem.idxL rfl rfl rfl es22 (by omega) (by omega)) rfl rfl ?_
          refine PC.sem (OpSem.load1 rfl rfl vs3 rfl) rfl rfl ?_
          refine PC.sem (OpSem.loadbN rfl rfl rfl vs26 (by first | decide | simp)) rfl rfl ?_
          refine PC.sem (OpSem.move (.inl rfl) rfl) rfl rfl ?_
          refine PC.sem (OpSem.move (.inl rfl) rfl) rfl rfl ?_
          refine PC.sem (OpSem.call0 (Q_LeastSlack_does m w k hv hw (by omega) (by omega)) rfl rfl rfl rfl (Les.refl _)) rfl rfl ?_
          refine PC.done0 mixed (by kernel_rfl) (by kernel_rfl) (by kernel_rfl) (by kernel_rfl) ?_
          refine TrOps.sem (OpSem.bin rfl rfl rfl bneq) rfl rfl (by decide) ?_
          refine TrOps.nil ?_
          refine At.seq ?_
          refine Tr.condF rfl (by rw [leastSlack_eq hv hw (by omega) (by omega), (slack_at hpf (op := k) (by omega) (by omega)).2]; simp) ?_
          refine Tr.skip ?_
          refine At.seq ?_
          refine Tr.region ?_
          refine TrOps.sem (OpSem.move (.inl rfl) rfl) rfl rfl (by decide) ?_
          refine TrOps.sem (OpSem.move (.inl rfl) rfl) rfl rfl (by decide) ?_
          refine TrOps.split (n := 107) rfl (fun c107 => ?_) (fun c107 => ?_)
          · refine TrOps.gT rfl rfl rfl rfl c107 ?_
            refine TrOps.sem (OpSem.move (.inl rfl) rfl) rfl rfl (by decide) ?_
            refine TrOps.gT rfl rfl rfl rfl c107 ?_
            refine TrOps.sem (OpSem.move (.inl rfl) rfl) rfl rfl (by decide) ?_
            refine TrOps.gT rfl rfl rfl rfl c107 ?_
            refine TrOps.sem (OpSem.idxL rfl rfl rfl es22 (by omega) (by omega)) rfl rfl (by decide) ?_
            refine TrOps.gT rfl rfl rfl rfl c107 ?_
            refine TrOps.sem (OpSem.load1 rfl rfl vs3 rfl) rfl rfl (by decide) ?_
            refine TrOps.gT rfl rfl rfl rfl c107 ?_
            refine TrOps.sem (OpSem.bin rfl rfl rfl bgeq) rfl rfl (by decide) ?_
            refine TrOps.sem (OpSem.pickT rfl rfl c107 rfl) rfl rfl (by decide) ?_
            refine TrOps.sem (OpSem.move (.inr rfl) rfl) rfl rfl (by decide) ?_
            refine TrOps.nil ?_
            refine At.block_normal ?_
            refine At.seq ?_
            refine Tr.region ?_
            refine TrOps.sem (OpSem.move (.inl rfl) rfl) rfl rfl (by decide) ?_
            refine TrOps.sem (OpSem.bin rfl rfl rfl (badd (by omega) (by omega))) rfl rfl (by decide) ?_
            refine TrOps.sem (OpSem.move (.inr rfl) rfl) rfl rfl (by decide) ?_
            refine TrOps.nil ?_
            refine At.again (k + 1) (by omega) ?_ (by omega)
            exact .slot rfl (.refl _) <| .slot rfl (.refl _) <| .slot rfl (.refl _) <| .slot rfl (.refl _) <| .slot rfl (Le.bo (goodS_t c107)) <| .slot rfl (Le.of_eq (by simp)) <| .mem rfl <| .nil
          · refine TrOps.gF rfl rfl rfl rfl c107 rfl (by decide) ?_
            refine TrOps.gF rfl rfl rfl rfl c107 rfl (by decide) ?_
            refine TrOps.gF rfl rfl rfl rfl c107 rfl (by decide) ?_
            refine TrOps.gF rfl rfl rfl rfl c107 rfl (by decide) ?_
            refine TrOps.gF rfl rfl rfl rfl c107 rfl (by decide) ?_
            refine TrOps.sem (OpSem.pickF rfl rfl c107 rfl) rfl rfl (by decide) ?_
            refine TrOps.sem (OpSem.move (.inr rfl) rfl) rfl rfl (by decide) ?_
            refine TrOps.nil ?_
            refine At.block_normal ?_
            refine At.seq ?_
            refine Tr.region ?_
            refine TrOps.sem (OpSem.move (.inl rfl) rfl) rfl rfl (by decide) ?_
            refine TrOps.sem (OpSem.bin rfl rfl rfl (badd (by omega) (by omega))) rfl rfl (by decide) ?_
            refine TrOps.sem (OpSem.move (.inr rfl) rfl) rfl rfl (by decide) ?_
            refine TrOps.nil ?_
            refine At.again (k + 1) (by omega) ?_ (by omega)
            exact .slot rfl (.refl _) <| .slot rfl (.refl _) <| .slot rfl (.refl _) <| .slot rfl (.refl _) <| .slot rfl (Le.bo (goodS_f c107)) <| .slot rfl (Le.of_eq (by simp)) <| .mem rfl <| .nil
        · have hk : k = (slackRes m w).1.length := by simp at c94; omega
          refine Tr.exit ?_
          refine At.pass_exit ?_
          refine At.pass_exit ?_
          refine At.block_same ?_
          refine At.seq ?_
          refine Tr.seq ?_
          refine Tr.region ?_
          refine TrOps.sem (OpSem.move (.inl rfl) rfl) rfl rfl (by decide) ?_
          refine TrOps.sem (OpSem.move (.inl rfl) rfl) rfl rfl (by decide) ?_
          refine TrOps.sem (OpSem.eqB rfl rfl rfl ub4) rfl rfl (by decide) ?_
          refine TrOps.sem (OpSem.move (.inr rfl) rfl) rfl rfl (by decide) ?_
          refine TrOps.nil ?_
          refine At.seq ?_
          refine Tr.ret ?_
          exact At.ret rfl (.tmp rfl <| .nil) rfl (Le.bo (by rw [hk, ← goodS_adm hz]; simp))

end Go.Proofs.Ytofjjeogoobopaa
