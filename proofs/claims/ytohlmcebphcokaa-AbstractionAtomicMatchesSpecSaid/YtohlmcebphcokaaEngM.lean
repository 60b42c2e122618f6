/- Projections: the laws in plain words. -/
import Derived.Test.YtohlmcebphcokaaEngL
set_option linter.unusedVariables false
set_option linter.unusedSimpArgs false
set_option linter.unusedSectionVars false
namespace Go.Eng
open Go
theorem stpF_state {m : Multi} {vars s : List Int} (h : stpF m vars s = (0, 0)) : stateFault m s = (0, 0) := by
  unfold stpF at h
  split at h
  · assumption
  · rename_i hn; exact absurd h hn
theorem valF_state {m : Multi} {vars s : List Int} (h : valF m vars s = (0, 0)) : stateFault m s = (0, 0) := stpF_state (bigF_ok h).1
theorem validate_of {m : Multi} (hv : Valid m) : validate m = (0, 0) := by
  have h1 : ¬ (m.sizes.length = 0 ∨ 8 < m.sizes.length) := by have := hv.len; omega
  have h3 : isState m.sizes m.init = true := (isState_true hv.init).symm
  have h4 : assigns m.sizes m.goal = true := (assigns_true hv.goal).symm
  exact (validate_8 h1 hv.sizes h3 h4 (by have := hv.opsLen; omega) (fun j hj => by
    have := hv.op j hj
    exact opFault_0 ⟨(assigns_true this.1).symm, (assigns_true this.2.1).symm⟩ this.2.2)).symm
theorem stateFault_of {m : Multi} {s : List Int} (hv : Valid m) (hs : StateP m.sizes s) : stateFault m s = (0, 0) := by
  unfold stateFault
  rw [if_pos (validate_of hv), if_pos (isState_true hs).symm]
theorem valF_of {m : Multi} {vars s : List Int} (hv : Valid m) (hs : StateP m.sizes s) (h0 : vars.length ≠ 0) (hp : PatP m.sizes vars) (hb : prodTo m.sizes vars vars.length ≤ 2000) : valF m vars s = (0, 0) := by
  have h1 : stpF m vars s = (0, 0) := by
    rw [← stpF_1 (stateFault_of hv hs)]
    unfold patFault
    rw [if_pos (patCode_0 h0 hp).symm]
  unfold valF
  rw [← bigF_2 (fun h => by omega)]
  exact h1
theorem val_le {m : Multi} {vars s : List Int} (h : valF m vars s = (0, 0)) : valR m vars s ≤ nth (costs m) (rank m.sizes s) := by
  obtain ⟨hv, hs, h0, hp, _⟩ := valF_ok h
  rw [valR_0 h]
  exact proj_le hv h0 hp hs
theorem val_all {m : Multi} {s : List Int} (hv : Valid m) (hs : StateP m.sizes s) (hb : ranks m.sizes ≤ 300) : valF m (allV m.sizes.length) s = (0, 0) ∧ valR m (allV m.sizes.length) s = nth (costs m) (rank m.sizes s) := by
  have hl := hv.len
  have hF : valF m (allV m.sizes.length) s = (0, 0) := valF_of hv hs (by rw [allV_len]; omega) allV_pat (by rw [prod_ranks, projM_all hv]; omega)
  refine ⟨hF, ?_⟩
  rw [valR_0 hF]
  unfold pval
  rw [projM_all hv, ← hs.1, sel_all]
theorem val_mono {m : Multi} {vars s : List Int} {v : Int} (h : valF m vars s = (0, 0)) (h2 : valF m (withL vars v) s = (0, 0)) : valR m vars s ≤ valR m (withL vars v) s := by
  obtain ⟨hv, hs, h0, hp, _⟩ := valF_ok h
  obtain ⟨_, _, hW0, hW, _⟩ := valF_ok h2
  rw [valR_0 h, valR_0 h2]
  exact proj_mono hv hW0 h0 hW hp (fun i hi => withL_mem hi) hs
theorem pval_next {m : Multi} {vars s : List Int} {op : Int} (h : valF m vars s = (0, 0)) (ha : (applyF m s op).1 = 0) : valF m vars (applyS m s op) = (0, 0) ∧ valR m vars s ≤ valR m vars (applyS m s op) + (nth m.ops op).cost := by
  obtain ⟨hv, hs, h0, hp, hb⟩ := valF_ok h
  obtain ⟨_, _, ho0, ho1, hpre⟩ := applyF_ok ha
  have hF : applyF m s op = (0, 0) := by
    rw [← applyF_0 (stateFault_of hv hs) (by omega) hpre]
  have hn := applyS_0 hF.symm
  have ho := nth_op hv ho0 ho1
  have hns := nextS_in hs ho.2.1
  rw [hn]
  have hF2 := valF_of hv hns h0 hp hb
  refine ⟨hF2, ?_⟩
  rw [valR_0 h, valR_0 hF2]
  have := proj_tri hv h0 hp hs (j := op.toNat) (by omega) (by rw [Int.toNat_of_nonneg ho0]; exact hpre)
  rwa [Int.toNat_of_nonneg ho0] at this
theorem lamps_valid : Valid lampsM := valid_of (by decide +kernel)
theorem ex_projF : projFault lampsM [1] = (0, 0) := by decide +kernel
theorem ex_distF : distF lampsM [1] = (0, 0) := by decide +kernel
theorem ex_valF : valF lampsM [0, 1] [0, 0] = (0, 0) := by decide +kernel
theorem ex_proj : projR lampsM [1] = ⟨[2], [0], [(0, 1)], [⟨[], [], 2⟩, ⟨[], [(0, 1)], 3⟩]⟩ := by rw [projR_0 ex_projF]; rfl
theorem ex_dist : distR lampsM [1] = [3, 0] := by
  rw [distR_0 ex_distF]
  have hv : Valid (projM lampsM [1]) := valid_proj lamps_valid (by decide) (by decide +kernel)
  rw [← costs_of hv (j := 2) (by decide +kernel)]
  decide +kernel
theorem ex_val : valR lampsM [0, 1] [0, 0] = 5 := by
  rw [valR_0 ex_valF]
  have hv : Valid (projM lampsM [0, 1]) := valid_proj lamps_valid (by decide) (by decide +kernel)
  unfold pval
  rw [← costs_of hv (j := 3) (by decide +kernel)]
  decide +kernel
end Go.Eng
