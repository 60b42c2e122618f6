/- Walks, written by gen.py out of hints. -/
import Derived.Test.YtofjjeogoobopaaTypes
import Derived.Test.YtofjjeogoobopaaCosts
import Derived.Test.YtofjjeogoobopaaPotB
set_option linter.unusedVariables false
set_option linter.unusedSimpArgs false
namespace Go.Proofs.Ytofjjeogoobopaa
open Go.Eng
set_option maxRecDepth 10000
set_option maxHeartbeats 1000000

theorem bestRes_F (m : Multi) (l : List (List (List Int))) (s : List Int) : (bestRes m l s).2.2 = bestF m l s := by
  unfold bestRes
  split
  · rename_i h; exact h.symm
  · rfl
theorem bestF_pot {m : Multi} {l : List (List (List Int))} {s : List Int} (h : bestF m l s = (0, 0)) : ∀ k : Nat, k < l.length → potFault m (nth l k) (-8) = (0, 0) := by
  obtain ⟨i1, i2, i3⟩ := addTo_wok (n := l.length) (g := baseF m l s) (sizes := m.sizes) (l := l) (by have := congrArg Prod.fst h; exact this)
  intro k hk
  have hv : validate m = (0, 0) := by
    unfold baseF at i1
    split at i1
    · cases i1
    · have := stateFault_code i1
      unfold stateFault at this
      split at this <;> assumption
  unfold potFault wfault
  rw [if_pos hv, if_pos (i3 k hk)]
theorem bestTo_max {f : Nat → Int} : ∀ {n j : Nat}, j < n → f j ≤ f (bestTo f n) ∧ (j < bestTo f n → f j < f (bestTo f n))
  | 0, j, h => absurd h (Nat.not_lt_zero _)
  | n + 1, j, h => by
    simp only [bestTo]
    rcases Nat.lt_or_ge j n with hj | hj
    · have ih := bestTo_max (f := f) hj
      split
      · exact ⟨by omega, fun _ => by omega⟩
      · exact ih
    · have : j = n := by omega
      subst this
      split
      · exact ⟨Int.le_refl _, fun h => absurd h (Nat.lt_irrefl _)⟩
      · have := bestTo_le (f := f) (n := j)
        exact ⟨by omega, fun h => by omega⟩
def goodL (m : Multi) (l : List (List (List Int))) (k : Nat) : Bool := decide (∀ i : Nat, i < k → adm m (nth l i) = true)
theorem goodL_0 {m : Multi} {l : List (List (List Int))} : true = goodL m l 0 := by simp [goodL]
theorem goodL_t {m : Multi} {l : List (List (List Int))} {k : Nat} (h : goodL m l k = true) : adm m (nth l k) = goodL m l (k + 1) := by
  simp only [goodL, decide_eq_true_eq] at h
  rw [Bool.eq_iff_iff]
  simp only [goodL, decide_eq_true_eq]
  exact ⟨fun hk => all_succ h hk, fun hk => hk k (by omega)⟩
theorem goodL_f {m : Multi} {l : List (List (List Int))} {k : Nat} (h : goodL m l k = false) : false = goodL m l (k + 1) := by
  symm
  rw [← Bool.not_eq_true] at h ⊢
  intro h'
  apply h
  simp only [goodL, decide_eq_true_eq] at h' ⊢
  exact fun i hi => h' i (by omega)

theorem law_PotentialBestAdmissible_does (m : Multi) (l : List (List (List Int))) (s : List Int) : Does Try.prog false 6 [multi m, .d (rowss l), .d (ints s)] (Bo true) := by
  refine Does.of_body Try.func6 rfl rfl (by simp) Try.call6 (fun w0 O0 => ?_)
  refine Tr.lenG (n := 0) (i := 0) rfl rfl (fun len0_0 => ?_)
  refine Tr.lenG (n := 0) (i := 1) rfl rfl (fun len0_1 => ?_)
  refine Tr.lenG (n := 0) (i := 2) rfl rfl (fun len0_2 => ?_)
  refine Tr.lenG (n := 0) (i := 3) rfl rfl (fun len0_3 => ?_)
  refine Tr.lenLe (n := 1) rfl (fun len1 => ?_)
  refine Tr.lenLe (n := 2) rfl (fun len2 => ?_)
  refine Tr.seq ?_
  refine Tr.region ?_
  refine TrOps.semM (OpSem.box 3 rfl rfl rfl rfl) rfl rfl (by decide) ?_
  refine TrOps.sem (OpSem.move (.inr rfl) rfl) rfl rfl (by decide) ?_
  refine TrOps.nil ?_
  refine At.seq ?_
  refine Tr.seq ?_
  refine Tr.seq ?_
  refine Tr.region ?_
  refine TrOps.sem (OpSem.call0 (law_potentialExample_does) rfl rfl rfl rfl (Les.refl _)) rfl rfl (by decide) ?_
  refine TrOps.sem (OpSem.not rfl rfl) rfl rfl (by decide) ?_
  refine TrOps.nil ?_
  refine At.seq ?_
  refine Tr.condF rfl rfl ?_
  refine Tr.skip ?_
  refine At.seq ?_
  refine Tr.seq ?_
  refine Tr.region ?_
  refine TrOps.sem (OpSem.loadbN rfl rfl rfl vs26 (by first | decide | simp)) rfl rfl (by decide) ?_
  refine TrOps.sem (OpSem.move (.inl rfl) rfl) rfl rfl (by decide) ?_
  refine TrOps.sem (OpSem.move (.inl rfl) rfl) rfl rfl (by decide) ?_
  refine TrOps.sem (OpSem.call0 (potential_Best_does m l s) rfl rfl rfl rfl (Les.refl _)) rfl rfl (by decide) ?_
  refine TrOps.sem (OpSem.move (.inl rfl) rfl) rfl rfl (by decide) ?_
  refine TrOps.sem (OpSem.extract rfl rfl rfl) rfl rfl (by decide) ?_
  refine TrOps.sem (OpSem.extract rfl rfl rfl) rfl rfl (by decide) ?_
  refine TrOps.sem (OpSem.extract rfl rfl rfl) rfl rfl (by decide) ?_
  refine TrOps.semM (OpSem.alloc 9 rfl zc30 rfl) rfl rfl (by decide) ?_
  refine TrOps.sem (OpSem.move (.inr rfl) rfl) rfl rfl (by decide) ?_
  refine TrOps.sem (OpSem.move (.inr rfl) rfl) rfl rfl (by decide) ?_
  refine TrOps.storeb rfl rfl rfl rfl rfl rfl rfl vs30 (by first | decide | simp) ?_
  refine TrOps.nil ?_
  refine At.seq ?_
  refine Tr.seq ?_
  refine Tr.seq ?_
  refine Tr.region ?_
  refine TrOps.sem (OpSem.fieldr rfl rfl fo30_0) rfl rfl (by decide) ?_
  refine TrOps.sem (OpSem.loadb1 rfl rfl rfl vs3 rfl) rfl rfl (by decide) ?_
  refine TrOps.sem (OpSem.bin rfl rfl rfl bneq) rfl rfl (by decide) ?_
  refine TrOps.sem (OpSem.move (.inl rfl) rfl) rfl rfl (by decide) ?_
  refine TrOps.split (n := 29) rfl (fun c29 => ?_) (fun c29 => ?_)
  · refine TrOps.gF rfl rfl rfl rfl c29 rfl (by decide) ?_
    refine TrOps.gF rfl rfl rfl rfl c29 rfl (by decide) ?_
    refine TrOps.gF rfl rfl rfl rfl c29 rfl (by decide) ?_
    refine TrOps.gF rfl rfl rfl rfl c29 rfl (by decide) ?_
    refine TrOps.gF rfl rfl rfl rfl c29 rfl (by decide) ?_
    refine TrOps.gF rfl rfl rfl rfl c29 rfl (by decide) ?_
    refine TrOps.sem (OpSem.pickT rfl rfl c29 rfl) rfl rfl (by decide) ?_
    refine TrOps.nil ?_
    refine At.seq ?_
    refine Tr.condT rfl rfl ?_
    refine Tr.seq ?_
    have hr := bestRes_1 (m := m) (l := l) (s := s) (by rw [← bestRes_F]; simpa using c29)
    refine Tr.region ?_
    refine TrOps.sem (OpSem.fieldr rfl rfl fo30_0) rfl rfl (by decide) ?_
    refine TrOps.sem (OpSem.loadb1 rfl rfl rfl vs3 rfl) rfl rfl (by decide) ?_
    refine TrOps.sem (OpSem.bin rfl rfl rfl bneq) rfl rfl (by decide) ?_
    refine TrOps.sem (OpSem.move (.inl rfl) rfl) rfl rfl (by decide) ?_
    refine TrOps.gT rfl rfl rfl rfl (by simpa using c29) ?_
    refine TrOps.sem (OpSem.move (.inl rfl) rfl) rfl rfl (by decide) ?_
    refine TrOps.gT rfl rfl rfl rfl (by simpa using c29) ?_
    refine TrOps.sem (OpSem.bin rfl rfl rfl beql) rfl rfl (by decide) ?_
    refine TrOps.sem (OpSem.pickT rfl rfl (by simpa using c29) rfl) rfl rfl (by decide) ?_
    refine TrOps.sem (OpSem.move (.inl rfl) rfl) rfl rfl (by decide) ?_
    refine TrOps.gT rfl rfl rfl rfl (by rw [hr]; rfl) ?_
    refine TrOps.sem (OpSem.move (.inl rfl) rfl) rfl rfl (by decide) ?_
    refine TrOps.gT rfl rfl rfl rfl (by rw [hr]; rfl) ?_
    refine TrOps.sem (OpSem.bin rfl rfl rfl beql) rfl rfl (by decide) ?_
    refine TrOps.sem (OpSem.pickT rfl rfl (by rw [hr]; rfl) rfl) rfl rfl (by decide) ?_
    refine TrOps.sem (OpSem.move (.inr rfl) rfl) rfl rfl (by decide) ?_
    refine TrOps.nil ?_
    refine At.seq ?_
    refine Tr.ret ?_
    refine At.pass_ret ?_
    exact At.ret rfl (.tmp rfl <| .nil) rfl (Le.bo (by first | rfl | (rw [hr]; rfl) | (have hg : goodL m l l.length = true := (by simpa using c112); simp only [goodL, decide_eq_true_eq] at hg; have h := adm_costs (hg _ hbl) (hpot _ hbl) hs; rw [hr]; simpa using h)))
  · have hb : bestF m l s = (0, 0) := bestF_code (by rw [← bestRes_F]; simpa using c29)
    have hr := bestRes_2 hb
    obtain ⟨hv, hs, hlen, hw⟩ := bestF_ok (m := m) (l := l) (s := s) (by rw [hb])
    have hpot := bestF_pot hb
    have hbl : bestI l s < l.length := bestTo_lt (by omega)
    refine TrOps.gT rfl rfl rfl rfl c29 ?_
    refine TrOps.sem (OpSem.move (.inl rfl) rfl) rfl rfl (by decide) ?_
    refine TrOps.gT rfl rfl rfl rfl c29 ?_
    refine TrOps.sem (OpSem.move (.inl rfl) rfl) rfl rfl (by decide) ?_
    refine TrOps.gT rfl rfl rfl rfl c29 ?_
    refine TrOps.sem (OpSem.lenL rfl rfl es51) rfl rfl (by decide) ?_
    refine TrOps.gT rfl rfl rfl rfl c29 ?_
    refine TrOps.sem (OpSem.bin rfl rfl rfl (bsub (by omega) (by omega))) rfl rfl (by decide) ?_
    refine TrOps.gT rfl rfl rfl rfl c29 ?_
    refine TrOps.sem (OpSem.call0 (R_In_does ..) rfl rfl rfl rfl (Les.refl _)) rfl rfl (by decide) ?_
    refine TrOps.gT rfl rfl rfl rfl c29 ?_
    refine TrOps.sem (OpSem.not rfl rfl) rfl rfl (by decide) ?_
    refine TrOps.sem (OpSem.pickF rfl rfl c29 rfl) rfl rfl (by decide) ?_
    refine TrOps.nil ?_
    refine At.seq ?_
    refine Tr.condF rfl (by rw [hr]; simp; omega) ?_
    refine Tr.skip ?_
    refine At.seq ?_
    refine Tr.seq ?_
    refine Tr.region ?_
    refine TrOps.sem (OpSem.move (.inr rfl) rfl) rfl rfl (by decide) ?_
    refine TrOps.nil ?_
    refine At.seq ?_
    refine Tr.seq ?_
    refine Tr.seq ?_
    refine Tr.region ?_
    refine TrOps.sem (OpSem.move (.inr rfl) rfl) rfl rfl (by decide) ?_
    refine TrOps.nil ?_
    refine At.seq ?_
    refine Tr.block ?_
    refine Tr.loop (X := Nat) (fun k => k ≤ l.length) (fun k => [(1, .d (rowss l)), (2, .d (ints s)), (3, .r 3 0), (7, I ((bestRes m l s).1)), (8, I ((bestRes m l s).2.1)), (10, Bo (goodL m l k)), (11, I (k))]) (fun k => [(3, .box [.d (ints m.sizes), .d (ints m.init), .d (asgs m.goal), .d (opsD m.ops)])]) (fun k => l.length - k) 0 (by omega) ?_ ?_
    · exact .slot rfl (.refl _) <| .slot rfl (.refl _) <| .slot rfl (.refl _) <| .slot rfl (.refl _) <| .slot rfl (.refl _) <| .slot rfl (Le.bo goodL_0) <| .slot rfl (Le.of_eq (by simp)) <| .mem rfl <| .nil
    · rintro k hkl
      refine Tr.seq ?_
      refine Tr.seq ?_
      refine Tr.region ?_
      refine TrOps.sem (OpSem.move (.inl rfl) rfl) rfl rfl (by decide) ?_
      refine TrOps.sem (OpSem.move (.inl rfl) rfl) rfl rfl (by decide) ?_
      refine TrOps.sem (OpSem.lenL rfl rfl es51) rfl rfl (by decide) ?_
      refine TrOps.sem (OpSem.bin rfl rfl rfl blss) rfl rfl (by decide) ?_
      refine TrOps.nil ?_
      refine At.seq ?_
      refine Tr.cond rfl (fun c51 => ?_) (fun c51 => ?_)
      · have hk : k < l.length := by simpa using c51
        have hpk := hpot k hk
        obtain ⟨e1, v1⟩ := valFault_mk hpk hs
        have e3 : (slackRes m (nth l k)).2.2 = (0, 0) := by rw [slackRes_2 (by rw [hpk]; exact ⟨rfl, rfl⟩)]
        have hmx : val (nth l k) s ≤ val (nth l (bestI l s)) s ∧ (k < bestI l s → val (nth l k) s < val (nth l (bestI l s)) s) := bestTo_max (f := valL l s) hk
        refine Tr.skip ?_
        refine At.seq ?_
        refine Tr.seq ?_
        refine Tr.block ?_
        refine Tr.seq ?_
        refine PC.start ?_
        refine PC.sem (OpSem.loadbN rfl rfl rfl vs26 (by first | decide | simp)) rfl rfl ?_
        refine PC.sem (OpSem.move (.inl rfl) rfl) rfl rfl ?_
        refine PC.sem (OpSem.move (.inl rfl) rfl) rfl rfl ?_
        refine PC.sem (OpSem.idxL rfl rfl rfl es51 (by omega) (by omega)) rfl rfl ?_
        refine PC.sem (OpSem.load1 rfl rfl vs27 rfl) rfl rfl ?_
        refine PC.sem (OpSem.move (.inl rfl) rfl) rfl rfl ?_
        refine PC.sem (OpSem.call0 (potential_Value_does m (nth l k) s) rfl rfl rfl rfl (Les.refl _)) rfl rfl ?_
        refine PC.sem (OpSem.move (.inl rfl) rfl) rfl rfl ?_
        refine PC.sem (OpSem.extract rfl rfl rfl) rfl rfl ?_
        refine PC.sem (OpSem.extract rfl rfl rfl) rfl rfl ?_
        refine PC.semM (OpSem.alloc 13 rfl zc30 rfl) rfl rfl ?_
        refine PC.sem (OpSem.move (.inr rfl) rfl) rfl rfl ?_
        refine PC.done1 13 (.box [I (0), I (0)]) mixed (by kernel_rfl) (by kernel_rfl) (by kernel_rfl) (by kernel_rfl) ?_
        refine TrOps.storeb rfl rfl rfl rfl rfl rfl rfl vs30 (by first | decide | simp) ?_
        refine TrOps.nil ?_
        refine At.seq ?_
        refine Tr.seq ?_
        refine PC.start ?_
        refine PC.sem (OpSem.loadbN rfl rfl rfl vs26 (by first | decide | simp)) rfl rfl ?_
        refine PC.sem (OpSem.move (.inl rfl) rfl) rfl rfl ?_
        refine PC.sem (OpSem.move (.inl rfl) rfl) rfl rfl ?_
        refine PC.sem (OpSem.idxL rfl rfl rfl es51 (by omega) (by omega)) rfl rfl ?_
        refine PC.sem (OpSem.load1 rfl rfl vs27 rfl) rfl rfl ?_
        refine PC.sem (OpSem.call0 (potential_Admissible_does m (nth l k)) rfl rfl rfl rfl (Les.refl _)) rfl rfl ?_
        refine PC.sem (OpSem.move (.inl rfl) rfl) rfl rfl ?_
        refine PC.sem (OpSem.extract rfl rfl rfl) rfl rfl ?_
        refine PC.sem (OpSem.extract rfl rfl rfl) rfl rfl ?_
        refine PC.semM (OpSem.alloc 15 rfl zc30 rfl) rfl rfl ?_
        refine PC.sem (OpSem.move (.inr rfl) rfl) rfl rfl ?_
        refine PC.done1 15 (.box [I (0), I (0)]) mixed (by kernel_rfl) (by kernel_rfl) (by kernel_rfl) (by kernel_rfl) ?_
        refine TrOps.storeb rfl rfl rfl rfl rfl rfl rfl vs30 (by first | decide | simp) ?_
        refine TrOps.nil ?_
        refine At.seq ?_
        refine Tr.seq ?_
        refine Tr.seq ?_
        refine Tr.region ?_
        refine TrOps.sem (OpSem.fieldr rfl rfl fo30_0) rfl rfl (by decide) ?_
        refine TrOps.sem (OpSem.loadb1 rfl rfl rfl vs3 rfl) rfl rfl (by decide) ?_
        refine TrOps.sem (OpSem.bin rfl rfl rfl bneq) rfl rfl (by decide) ?_
        refine TrOps.sem (OpSem.move (.inl rfl) rfl) rfl rfl (by decide) ?_
        refine TrOps.gT rfl rfl rfl rfl (by rw [e1]; rfl) ?_
        refine TrOps.sem (OpSem.fieldr rfl rfl fo30_0) rfl rfl (by decide) ?_
        refine TrOps.gT rfl rfl rfl rfl (by rw [e1]; rfl) ?_
        refine TrOps.sem (OpSem.loadb1 rfl rfl rfl vs3 rfl) rfl rfl (by decide) ?_
        refine TrOps.gT rfl rfl rfl rfl (by rw [e1]; rfl) ?_
        refine TrOps.sem (OpSem.bin rfl rfl rfl bneq) rfl rfl (by decide) ?_
        refine TrOps.sem (OpSem.pickF rfl rfl (by rw [e1]; rfl) rfl) rfl rfl (by decide) ?_
        refine TrOps.sem (OpSem.move (.inl rfl) rfl) rfl rfl (by decide) ?_
        refine TrOps.gT rfl rfl rfl rfl (by rw [e3]; rfl) ?_
        refine TrOps.sem (OpSem.move (.inl rfl) rfl) rfl rfl (by decide) ?_
        refine TrOps.gT rfl rfl rfl rfl (by rw [e3]; rfl) ?_
        refine TrOps.sem (OpSem.move (.inl rfl) rfl) rfl rfl (by decide) ?_
        refine TrOps.gT rfl rfl rfl rfl (by rw [e3]; rfl) ?_
        refine TrOps.sem (OpSem.bin rfl rfl rfl bgtr) rfl rfl (by decide) ?_
        refine TrOps.sem (OpSem.pickF rfl rfl (by rw [e3]; rfl) rfl) rfl rfl (by decide) ?_
        refine TrOps.sem (OpSem.move (.inl rfl) rfl) rfl rfl (by decide) ?_
        refine TrOps.gT rfl rfl rfl rfl (by rw [hr, v1]; simp only [decide_eq_false_iff_not]; have := hmx.1; omega) ?_
        refine TrOps.sem (OpSem.move (.inl rfl) rfl) rfl rfl (by decide) ?_
        refine TrOps.gT rfl rfl rfl rfl (by rw [hr, v1]; simp only [decide_eq_false_iff_not]; have := hmx.1; omega) ?_
        refine TrOps.sem (OpSem.move (.inl rfl) rfl) rfl rfl (by decide) ?_
        refine TrOps.gT rfl rfl rfl rfl (by rw [hr, v1]; simp only [decide_eq_false_iff_not]; have := hmx.1; omega) ?_
        refine TrOps.sem (OpSem.bin rfl rfl rfl beql) rfl rfl (by decide) ?_
        refine TrOps.gT rfl rfl rfl rfl (by rw [hr, v1]; simp only [decide_eq_false_iff_not]; have := hmx.1; omega) ?_
        refine TrOps.sem (OpSem.move (.inl rfl) rfl) rfl rfl (by decide) ?_
        refine TrOps.split (n := 90) rfl (fun c90 => ?_) (fun c90 => ?_)
        · refine TrOps.gT rfl rfl rfl rfl c90 ?_
          refine TrOps.sem (OpSem.move (.inl rfl) rfl) rfl rfl (by decide) ?_
          refine TrOps.gT rfl rfl rfl rfl c90 ?_
          refine TrOps.sem (OpSem.move (.inl rfl) rfl) rfl rfl (by decide) ?_
          refine TrOps.gT rfl rfl rfl rfl c90 ?_
          refine TrOps.sem (OpSem.bin rfl rfl rfl bneq) rfl rfl (by decide) ?_
          refine TrOps.gT rfl rfl rfl rfl (by rw [hr, v1]; simp only [decide_eq_false_iff_not]; have := hmx.1; omega) ?_
          refine TrOps.sem (OpSem.pickT rfl rfl c90 rfl) rfl rfl (by decide) ?_
          refine TrOps.sem (OpSem.pickF rfl rfl (by rw [hr, v1]; simp only [decide_eq_false_iff_not]; have := hmx.1; omega) rfl) rfl rfl (by decide) ?_
          refine TrOps.sem (OpSem.move (.inl rfl) rfl) rfl rfl (by decide) ?_
          refine TrOps.gT rfl rfl rfl rfl (by have h90 : (k : Int) = (bestI l s : Nat) := (by rw [hr] at c90; simpa using c90); have h91 : k = bestI l s := (by omega); rw [hr, v1, ← h91]; simp) ?_
          refine TrOps.sem (OpSem.move (.inl rfl) rfl) rfl rfl (by decide) ?_
          refine TrOps.gT rfl rfl rfl rfl (by have h90 : (k : Int) = (bestI l s : Nat) := (by rw [hr] at c90; simpa using c90); have h91 : k = bestI l s := (by omega); rw [hr, v1, ← h91]; simp) ?_
          refine TrOps.sem (OpSem.move (.inl rfl) rfl) rfl rfl (by decide) ?_
          refine TrOps.gT rfl rfl rfl rfl (by have h90 : (k : Int) = (bestI l s : Nat) := (by rw [hr] at c90; simpa using c90); have h91 : k = bestI l s := (by omega); rw [hr, v1, ← h91]; simp) ?_
          refine TrOps.sem (OpSem.bin rfl rfl rfl blss) rfl rfl (by decide) ?_
          refine TrOps.gT rfl rfl rfl rfl (by have h90 : (k : Int) = (bestI l s : Nat) := (by rw [hr] at c90; simpa using c90); have h91 : k = bestI l s := (by omega); rw [hr, v1, ← h91]; simp) ?_
          refine TrOps.sem (OpSem.move (.inl rfl) rfl) rfl rfl (by decide) ?_
          refine TrOps.split (n := 100) rfl (fun c100 => ?_) (fun c100 => ?_)
          · refine TrOps.gT rfl rfl rfl rfl c100 ?_
            refine TrOps.sem (OpSem.move (.inl rfl) rfl) rfl rfl (by decide) ?_
            refine TrOps.gT rfl rfl rfl rfl c100 ?_
            refine TrOps.sem (OpSem.move (.inl rfl) rfl) rfl rfl (by decide) ?_
            refine TrOps.gT rfl rfl rfl rfl c100 ?_
            refine TrOps.sem (OpSem.bin rfl rfl rfl beql) rfl rfl (by decide) ?_
            refine TrOps.gT rfl rfl rfl rfl (by have h90 : (k : Int) = (bestI l s : Nat) := (by rw [hr] at c90; simpa using c90); have h91 : k = bestI l s := (by omega); rw [hr, v1, ← h91]; simp) ?_
            refine TrOps.sem (OpSem.pickT rfl rfl c100 rfl) rfl rfl (by decide) ?_
            refine TrOps.sem (OpSem.pickF rfl rfl (by have h90 : (k : Int) = (bestI l s : Nat) := (by rw [hr] at c90; simpa using c90); have h91 : k = bestI l s := (by omega); rw [hr, v1, ← h91]; simp) rfl) rfl rfl (by decide) ?_
            refine TrOps.nil ?_
            refine At.seq ?_
            refine Tr.condF rfl (by have h1 : (k : Int) < (bestI l s : Nat) := (by rw [hr] at c100; simpa using c100); have h2 := hmx.2 (by omega); rw [hr, v1]; simp only [decide_eq_false_iff_not]; omega) ?_
            refine Tr.skip ?_
            refine At.seq ?_
            refine Tr.region ?_
            refine TrOps.sem (OpSem.move (.inl rfl) rfl) rfl rfl (by decide) ?_
            refine TrOps.sem (OpSem.move (.inl rfl) rfl) rfl rfl (by decide) ?_
            refine TrOps.split (n := 107) rfl (fun c107 => ?_) (fun c107 => ?_)
            · refine TrOps.gT rfl rfl rfl rfl c107 ?_
              refine TrOps.sem (OpSem.move (.inl rfl) rfl) rfl rfl (by decide) ?_
              refine TrOps.sem (OpSem.pickT rfl rfl c107 rfl) rfl rfl (by decide) ?_
              refine TrOps.sem (OpSem.move (.inr rfl) rfl) rfl rfl (by decide) ?_
              refine TrOps.nil ?_
              refine At.block_normal ?_
              refine At.seq ?_
              refine Tr.region ?_
              refine TrOps.sem (OpSem.move (.inl rfl) rfl) rfl rfl (by decide) ?_
              refine TrOps.sem (OpSem.bin rfl rfl rfl (badd (by omega) (by omega))) rfl rfl (by decide) ?_
              refine TrOps.sem (OpSem.move (.inr rfl) rfl) rfl rfl (by decide) ?_
              refine TrOps.nil ?_
              refine At.again (k + 1) (by omega) ?_ (by omega)
              exact .slot rfl (.refl _) <| .slot rfl (.refl _) <| .slot rfl (.refl _) <| .slot rfl (.refl _) <| .slot rfl (.refl _) <| .slot rfl (Le.bo (by first | exact goodL_t c107 | exact goodL_f c107)) <| .slot rfl (Le.of_eq (by simp)) <| .mem rfl <| .nil
            · refine TrOps.gF rfl rfl rfl rfl c107 rfl (by decide) ?_
              refine TrOps.sem (OpSem.pickF rfl rfl c107 rfl) rfl rfl (by decide) ?_
              refine TrOps.sem (OpSem.move (.inr rfl) rfl) rfl rfl (by decide) ?_
              refine TrOps.nil ?_
              refine At.block_normal ?_
              refine At.seq ?_
              refine Tr.region ?_
              refine TrOps.sem (OpSem.move (.inl rfl) rfl) rfl rfl (by decide) ?_
              refine TrOps.sem (OpSem.bin rfl rfl rfl (badd (by omega) (by omega))) rfl rfl (by decide) ?_
              refine TrOps.sem (OpSem.move (.inr rfl) rfl) rfl rfl (by decide) ?_
              refine TrOps.nil ?_
              refine At.again (k + 1) (by omega) ?_ (by omega)
              exact .slot rfl (.refl _) <| .slot rfl (.refl _) <| .slot rfl (.refl _) <| .slot rfl (.refl _) <| .slot rfl (.refl _) <| .slot rfl (Le.bo (by first | exact goodL_t c107 | exact goodL_f c107)) <| .slot rfl (Le.of_eq (by simp)) <| .mem rfl <| .nil
          · refine TrOps.gF rfl rfl rfl rfl c100 rfl (by decide) ?_
            refine TrOps.gF rfl rfl rfl rfl c100 rfl (by decide) ?_
            refine TrOps.gF rfl rfl rfl rfl c100 rfl (by decide) ?_
            refine TrOps.gT rfl rfl rfl rfl (by have h90 : (k : Int) = (bestI l s : Nat) := (by rw [hr] at c90; simpa using c90); have h91 : k = bestI l s := (by omega); rw [hr, v1, ← h91]; simp) ?_
            refine TrOps.sem (OpSem.pickF rfl rfl c100 rfl) rfl rfl (by decide) ?_
            refine TrOps.sem (OpSem.pickF rfl rfl (by have h90 : (k : Int) = (bestI l s : Nat) := (by rw [hr] at c90; simpa using c90); have h91 : k = bestI l s := (by omega); rw [hr, v1, ← h91]; simp) rfl) rfl rfl (by decide) ?_
            refine TrOps.nil ?_
            refine At.seq ?_
            refine Tr.condF rfl rfl ?_
            refine Tr.skip ?_
            refine At.seq ?_
            refine Tr.region ?_
            refine TrOps.sem (OpSem.move (.inl rfl) rfl) rfl rfl (by decide) ?_
            refine TrOps.sem (OpSem.move (.inl rfl) rfl) rfl rfl (by decide) ?_
            refine TrOps.split (n := 107) rfl (fun c107 => ?_) (fun c107 => ?_)
            · refine TrOps.gT rfl rfl rfl rfl c107 ?_
              refine TrOps.sem (OpSem.move (.inl rfl) rfl) rfl rfl (by decide) ?_
              refine TrOps.sem (OpSem.pickT rfl rfl c107 rfl) rfl rfl (by decide) ?_
              refine TrOps.sem (OpSem.move (.inr rfl) rfl) rfl rfl (by decide) ?_
              refine TrOps.nil ?_
              refine At.block_normal ?_
              refine At.seq ?_
              refine Tr.region ?_
              refine TrOps.sem (OpSem.move (.inl rfl) rfl) rfl rfl (by decide) ?_
              refine TrOps.sem (OpSem.bin rfl rfl rfl (badd (by omega) (by omega))) rfl rfl (by decide) ?_
              refine TrOps.sem (OpSem.move (.inr rfl) rfl) rfl rfl (by decide) ?_
              refine TrOps.nil ?_
              refine At.again (k + 1) (by omega) ?_ (by omega)
              exact .slot rfl (.refl _) <| .slot rfl (.refl _) <| .slot rfl (.refl _) <| .slot rfl (.refl _) <| .slot rfl (.refl _) <| .slot rfl (Le.bo (by first | exact goodL_t c107 | exact goodL_f c107)) <| .slot rfl (Le.of_eq (by simp)) <| .mem rfl <| .nil
            · refine TrOps.gF rfl rfl rfl rfl c107 rfl (by decide) ?_
              refine TrOps.sem (OpSem.pickF rfl rfl c107 rfl) rfl rfl (by decide) ?_
              refine TrOps.sem (OpSem.move (.inr rfl) rfl) rfl rfl (by decide) ?_
              refine TrOps.nil ?_
              refine At.block_normal ?_
              refine At.seq ?_
              refine Tr.region ?_
              refine TrOps.sem (OpSem.move (.inl rfl) rfl) rfl rfl (by decide) ?_
              refine TrOps.sem (OpSem.bin rfl rfl rfl (badd (by omega) (by omega))) rfl rfl (by decide) ?_
              refine TrOps.sem (OpSem.move (.inr rfl) rfl) rfl rfl (by decide) ?_
              refine TrOps.nil ?_
              refine At.again (k + 1) (by omega) ?_ (by omega)
              exact .slot rfl (.refl _) <| .slot rfl (.refl _) <| .slot rfl (.refl _) <| .slot rfl (.refl _) <| .slot rfl (.refl _) <| .slot rfl (Le.bo (by first | exact goodL_t c107 | exact goodL_f c107)) <| .slot rfl (Le.of_eq (by simp)) <| .mem rfl <| .nil
        · refine TrOps.gF rfl rfl rfl rfl c90 rfl (by decide) ?_
          refine TrOps.gF rfl rfl rfl rfl c90 rfl (by decide) ?_
          refine TrOps.gF rfl rfl rfl rfl c90 rfl (by decide) ?_
          refine TrOps.gT rfl rfl rfl rfl (by rw [hr, v1]; simp only [decide_eq_false_iff_not]; have := hmx.1; omega) ?_
          refine TrOps.sem (OpSem.pickF rfl rfl c90 rfl) rfl rfl (by decide) ?_
          refine TrOps.sem (OpSem.pickF rfl rfl (by rw [hr, v1]; simp only [decide_eq_false_iff_not]; have := hmx.1; omega) rfl) rfl rfl (by decide) ?_
          refine TrOps.sem (OpSem.move (.inl rfl) rfl) rfl rfl (by decide) ?_
          refine TrOps.gT rfl rfl rfl rfl rfl ?_
          refine TrOps.sem (OpSem.move (.inl rfl) rfl) rfl rfl (by decide) ?_
          refine TrOps.gT rfl rfl rfl rfl rfl ?_
          refine TrOps.sem (OpSem.move (.inl rfl) rfl) rfl rfl (by decide) ?_
          refine TrOps.gT rfl rfl rfl rfl rfl ?_
          refine TrOps.sem (OpSem.bin rfl rfl rfl blss) rfl rfl (by decide) ?_
          refine TrOps.gT rfl rfl rfl rfl rfl ?_
          refine TrOps.sem (OpSem.move (.inl rfl) rfl) rfl rfl (by decide) ?_
          refine TrOps.split (n := 100) rfl (fun c100 => ?_) (fun c100 => ?_)
          · refine TrOps.gT rfl rfl rfl rfl c100 ?_
            refine TrOps.sem (OpSem.move (.inl rfl) rfl) rfl rfl (by decide) ?_
            refine TrOps.gT rfl rfl rfl rfl c100 ?_
            refine TrOps.sem (OpSem.move (.inl rfl) rfl) rfl rfl (by decide) ?_
            refine TrOps.gT rfl rfl rfl rfl c100 ?_
            refine TrOps.sem (OpSem.bin rfl rfl rfl beql) rfl rfl (by decide) ?_
            refine TrOps.gT rfl rfl rfl rfl rfl ?_
            refine TrOps.sem (OpSem.pickT rfl rfl c100 rfl) rfl rfl (by decide) ?_
            refine TrOps.sem (OpSem.pickF rfl rfl rfl rfl) rfl rfl (by decide) ?_
            refine TrOps.nil ?_
            refine At.seq ?_
            refine Tr.condF rfl (by have h1 : (k : Int) < (bestI l s : Nat) := (by rw [hr] at c100; simpa using c100); have h2 := hmx.2 (by omega); rw [hr, v1]; simp only [decide_eq_false_iff_not]; omega) ?_
            refine Tr.skip ?_
            refine At.seq ?_
            refine Tr.region ?_
            refine TrOps.sem (OpSem.move (.inl rfl) rfl) rfl rfl (by decide) ?_
            refine TrOps.sem (OpSem.move (.inl rfl) rfl) rfl rfl (by decide) ?_
            refine TrOps.split (n := 107) rfl (fun c107 => ?_) (fun c107 => ?_)
            · refine TrOps.gT rfl rfl rfl rfl c107 ?_
              refine TrOps.sem (OpSem.move (.inl rfl) rfl) rfl rfl (by decide) ?_
              refine TrOps.sem (OpSem.pickT rfl rfl c107 rfl) rfl rfl (by decide) ?_
              refine TrOps.sem (OpSem.move (.inr rfl) rfl) rfl rfl (by decide) ?_
              refine TrOps.nil ?_
              refine At.block_normal ?_
              refine At.seq ?_
              refine Tr.region ?_
              refine TrOps.sem (OpSem.move (.inl rfl) rfl) rfl rfl (by decide) ?_
              refine TrOps.sem (OpSem.bin rfl rfl rfl (badd (by omega) (by omega))) rfl rfl (by decide) ?_
              refine TrOps.sem (OpSem.move (.inr rfl) rfl) rfl rfl (by decide) ?_
              refine TrOps.nil ?_
              refine At.again (k + 1) (by omega) ?_ (by omega)
              exact .slot rfl (.refl _) <| .slot rfl (.refl _) <| .slot rfl (.refl _) <| .slot rfl (.refl _) <| .slot rfl (.refl _) <| .slot rfl (Le.bo (by first | exact goodL_t c107 | exact goodL_f c107)) <| .slot rfl (Le.of_eq (by simp)) <| .mem rfl <| .nil
            · refine TrOps.gF rfl rfl rfl rfl c107 rfl (by decide) ?_
              refine TrOps.sem (OpSem.pickF rfl rfl c107 rfl) rfl rfl (by decide) ?_
              refine TrOps.sem (OpSem.move (.inr rfl) rfl) rfl rfl (by decide) ?_
              refine TrOps.nil ?_
              refine At.block_normal ?_
              refine At.seq ?_
              refine Tr.region ?_
              refine TrOps.sem (OpSem.move (.inl rfl) rfl) rfl rfl (by decide) ?_
              refine TrOps.sem (OpSem.bin rfl rfl rfl (badd (by omega) (by omega))) rfl rfl (by decide) ?_
              refine TrOps.sem (OpSem.move (.inr rfl) rfl) rfl rfl (by decide) ?_
              refine TrOps.nil ?_
              refine At.again (k + 1) (by omega) ?_ (by omega)
              exact .slot rfl (.refl _) <| .slot rfl (.refl _) <| .slot rfl (.refl _) <| .slot rfl (.refl _) <| .slot rfl (.refl _) <| .slot rfl (Le.bo (by first | exact goodL_t c107 | exact goodL_f c107)) <| .slot rfl (Le.of_eq (by simp)) <| .mem rfl <| .nil
          · refine TrOps.gF rfl rfl rfl rfl c100 rfl (by decide) ?_
            refine TrOps.gF rfl rfl rfl rfl c100 rfl (by decide) ?_
            refine TrOps.gF rfl rfl rfl rfl c100 rfl (by decide) ?_
            refine TrOps.gT rfl rfl rfl rfl rfl ?_
            refine TrOps.sem (OpSem.pickF rfl rfl c100 rfl) rfl rfl (by decide) ?_
            refine TrOps.sem (OpSem.pickF rfl rfl rfl rfl) rfl rfl (by decide) ?_
            refine TrOps.nil ?_
            refine At.seq ?_
            refine Tr.condF rfl rfl ?_
            refine Tr.skip ?_
            refine At.seq ?_
            refine Tr.region ?_
            refine TrOps.sem (OpSem.move (.inl rfl) rfl) rfl rfl (by decide) ?_
            refine TrOps.sem (OpSem.move (.inl rfl) rfl) rfl rfl (by decide) ?_
            refine TrOps.split (n := 107) rfl (fun c107 => ?_) (fun c107 => ?_)
            · refine TrOps.gT rfl rfl rfl rfl c107 ?_
              refine TrOps.sem (OpSem.move (.inl rfl) rfl) rfl rfl (by decide) ?_
              refine TrOps.sem (OpSem.pickT rfl rfl c107 rfl) rfl rfl (by decide) ?_
              refine TrOps.sem (OpSem.move (.inr rfl) rfl) rfl rfl (by decide) ?_
              refine TrOps.nil ?_
              refine At.block_normal ?_
              refine At.seq ?_
              refine Tr.region ?_
              refine TrOps.sem (OpSem.move (.inl rfl) rfl) rfl rfl (by decide) ?_
              refine TrOps.sem (OpSem.bin rfl rfl rfl (badd (by omega) (by omega))) rfl rfl (by decide) ?_
              refine TrOps.sem (OpSem.move (.inr rfl) rfl) rfl rfl (by decide) ?_
              refine TrOps.nil ?_
              refine At.again (k + 1) (by omega) ?_ (by omega)
              exact .slot rfl (.refl _) <| .slot rfl (.refl _) <| .slot rfl (.refl _) <| .slot rfl (.refl _) <| .slot rfl (.refl _) <| .slot rfl (Le.bo (by first | exact goodL_t c107 | exact goodL_f c107)) <| .slot rfl (Le.of_eq (by simp)) <| .mem rfl <| .nil
            · refine TrOps.gF rfl rfl rfl rfl c107 rfl (by decide) ?_
              refine TrOps.sem (OpSem.pickF rfl rfl c107 rfl) rfl rfl (by decide) ?_
              refine TrOps.sem (OpSem.move (.inr rfl) rfl) rfl rfl (by decide) ?_
              refine TrOps.nil ?_
              refine At.block_normal ?_
              refine At.seq ?_
              refine Tr.region ?_
              refine TrOps.sem (OpSem.move (.inl rfl) rfl) rfl rfl (by decide) ?_
              refine TrOps.sem (OpSem.bin rfl rfl rfl (badd (by omega) (by omega))) rfl rfl (by decide) ?_
              refine TrOps.sem (OpSem.move (.inr rfl) rfl) rfl rfl (by decide) ?_
              refine TrOps.nil ?_
              refine At.again (k + 1) (by omega) ?_ (by omega)
              exact .slot rfl (.refl _) <| .slot rfl (.refl _) <| .slot rfl (.refl _) <| .slot rfl (.refl _) <| .slot rfl (.refl _) <| .slot rfl (Le.bo (by first | exact goodL_t c107 | exact goodL_f c107)) <| .slot rfl (Le.of_eq (by simp)) <| .mem rfl <| .nil
      · have hk : k = l.length := by simp at c51; omega
        subst hk
        have hrk := rank_in hv.sizes hs
        have hcg := costs_good hv
        have hN := nR_in hv
        have hcl := hcg.1
        obtain ⟨e1, v1⟩ := valFault_mk (hpot _ hbl) hs
        refine Tr.exit ?_
        refine At.pass_exit ?_
        refine At.pass_exit ?_
        refine At.block_same ?_
        refine At.seq ?_
        refine Tr.seq ?_
        refine PC.start ?_
        refine PC.sem (OpSem.move (.inl rfl) rfl) rfl rfl ?_
        refine PC.sem (OpSem.not rfl rfl) rfl rfl ?_
        refine PC.sem (OpSem.move (.inl rfl) rfl) rfl rfl ?_
        refine PC.split (n := 112) rfl (fun c112 => ?_) (fun c112 => ?_)
        · refine PC.gF rfl rfl rfl rfl c112 rfl ?_
          refine PC.gF rfl rfl rfl rfl c112 rfl ?_
          refine PC.gF rfl rfl rfl rfl c112 rfl ?_
          refine PC.sem (OpSem.pickT rfl rfl c112 rfl) rfl rfl ?_
          refine PC.sem (OpSem.move (.inl rfl) rfl) rfl rfl ?_
          refine PC.gF rfl rfl rfl rfl rfl rfl ?_
          refine PC.gF rfl rfl rfl rfl rfl rfl ?_
          refine PC.gF rfl rfl rfl rfl rfl rfl ?_
          refine PC.gF rfl rfl rfl rfl rfl rfl ?_
          refine PC.gF rfl rfl rfl rfl rfl rfl ?_
          refine PC.gF rfl rfl rfl rfl rfl rfl ?_
          refine PC.gF rfl rfl rfl rfl rfl rfl ?_
          refine PC.gF rfl rfl rfl rfl rfl rfl ?_
          refine PC.done0 mixed (by kernel_rfl) (by kernel_rfl) (by kernel_rfl) (by kernel_rfl) ?_
          refine TrOps.gF rfl rfl rfl rfl rfl rfl (by decide) ?_
          refine TrOps.sem (OpSem.pickT rfl rfl rfl rfl) rfl rfl (by decide) ?_
          refine TrOps.sem (OpSem.move (.inr rfl) rfl) rfl rfl (by decide) ?_
          refine TrOps.nil ?_
          refine At.seq ?_
          refine Tr.ret ?_
          exact At.ret rfl (.tmp rfl <| .nil) rfl (Le.bo (by first | rfl | (rw [hr]; rfl) | (have hg : goodL m l l.length = true := (by simpa using c112); simp only [goodL, decide_eq_true_eq] at hg; have h := adm_costs (hg _ hbl) (hpot _ hbl) hs; rw [hr]; simpa using h)))
        · refine PC.gT (OpSem.loadbN rfl rfl rfl vs26 (by first | decide | simp)) rfl rfl rfl rfl c112 rfl ?_
          refine PC.gT (OpSem.call0 (law_small_does m hv) rfl rfl rfl rfl (Les.refl _)) rfl rfl rfl rfl c112 rfl ?_
          refine PC.gT (OpSem.not rfl rfl) rfl rfl rfl rfl c112 rfl ?_
          refine PC.sem (OpSem.pickF rfl rfl c112 rfl) rfl rfl ?_
          refine PC.sem (OpSem.move (.inl rfl) rfl) rfl rfl ?_
          refine PC.split (n := 117) rfl (fun c117 => ?_) (fun c117 => ?_)
          · refine PC.gF rfl rfl rfl rfl c117 rfl ?_
            refine PC.gF rfl rfl rfl rfl c117 rfl ?_
            refine PC.gF rfl rfl rfl rfl c117 rfl ?_
            refine PC.gF rfl rfl rfl rfl c117 rfl ?_
            refine PC.gF rfl rfl rfl rfl c117 rfl ?_
            refine PC.gF rfl rfl rfl rfl c117 rfl ?_
            refine PC.gF rfl rfl rfl rfl c117 rfl ?_
            refine PC.gF rfl rfl rfl rfl c117 rfl ?_
            refine PC.done0 mixed (by kernel_rfl) (by kernel_rfl) (by kernel_rfl) (by kernel_rfl) ?_
            refine TrOps.gF rfl rfl rfl rfl c117 rfl (by decide) ?_
            refine TrOps.sem (OpSem.pickT rfl rfl c117 rfl) rfl rfl (by decide) ?_
            refine TrOps.sem (OpSem.move (.inr rfl) rfl) rfl rfl (by decide) ?_
            refine TrOps.nil ?_
            refine At.seq ?_
            refine Tr.ret ?_
            exact At.ret rfl (.tmp rfl <| .nil) rfl (Le.bo (by first | rfl | (rw [hr]; rfl) | (have hg : goodL m l l.length = true := (by simpa using c112); simp only [goodL, decide_eq_true_eq] at hg; have h := adm_costs (hg _ hbl) (hpot _ hbl) hs; rw [hr]; simpa using h)))
          · refine PC.gT (OpSem.move (.inl rfl) rfl) rfl rfl rfl rfl c117 rfl ?_
            refine PC.gT (OpSem.loadbN rfl rfl rfl vs26 (by first | decide | simp)) rfl rfl rfl rfl c117 rfl ?_
            refine PC.gT (OpSem.call0 (R_MultiCosts_does m hv).fresh rfl rfl rfl rfl (Les.refl _)) rfl rfl rfl rfl c117 rfl ?_
            refine PC.gT (OpSem.loadbN rfl rfl rfl vs26 (by first | decide | simp)) rfl rfl rfl rfl c117 rfl ?_
            refine PC.gT (OpSem.move (.inl rfl) rfl) rfl rfl rfl rfl c117 rfl ?_
            refine PC.gT (OpSem.call0 (R_Rank_does m s hv hs) rfl rfl rfl rfl (Les.refl _)) rfl rfl rfl rfl c117 rfl ?_
            refine PC.gT (OpSem.idxL rfl rfl rfl es22 (by omega) (by omega)) rfl rfl rfl rfl c117 rfl ?_
            refine PC.gT (OpSem.load1 rfl rfl vs3 rfl) rfl rfl rfl rfl c117 rfl ?_
            refine PC.done0 mixed (by kernel_rfl) (by kernel_rfl) (by kernel_rfl) (by kernel_rfl) ?_
            refine TrOps.gT rfl rfl rfl rfl c117 ?_
            refine TrOps.sem (OpSem.bin rfl rfl rfl bleq) rfl rfl (by decide) ?_
            refine TrOps.sem (OpSem.pickF rfl rfl c117 rfl) rfl rfl (by decide) ?_
            refine TrOps.sem (OpSem.move (.inr rfl) rfl) rfl rfl (by decide) ?_
            refine TrOps.nil ?_
            refine At.seq ?_
            refine Tr.ret ?_
            exact At.ret rfl (.tmp rfl <| .nil) rfl (Le.bo (by first | rfl | (rw [hr]; rfl) | (have hg : goodL m l l.length = true := (by simpa using c112); simp only [goodL, decide_eq_true_eq] at hg; have h := adm_costs (hg _ hbl) (hpot _ hbl) hs; rw [hr]; simpa using h)))

end Go.Proofs.Ytofjjeogoobopaa
