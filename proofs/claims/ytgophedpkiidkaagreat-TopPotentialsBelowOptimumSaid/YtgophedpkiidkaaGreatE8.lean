/- Part 8. -/
import Derived.Test.YtgophedpkiidkaaGreatE7
set_option linter.unusedSimpArgs false
set_option linter.unnecessarySimpa false
set_option linter.unusedVariables false
set_option linter.unusedSectionVars false
section
namespace Go.Proofs.YtgophedpkiidkaaGreat
open Go.Eng
set_option maxRecDepth 10000
set_option maxHeartbeats 4000000
theorem openlist_order_uint32_Len_M {p : Pl} {n : Nat} (hp : p = none → n = 0) : DoesM Tryz.prog 179 [plV p n] [] 0 (fo []) (fun v F' ds' => v = .int .i64 (n : Nat) ∧ F' = fo [] ∧ ds' = []) := by
 refine DoesM.of_body Tryz.func179 rfl rfl (by simp) Tryz.call179 (.inl fun i h => absurd h (Nat.not_lt_zero i)) (fun Oc W => ?_); refine .g <| .r <| .a ?_; refine .z <| .m ?_; refine .x (OpSem.lenPl rfl rfl es157 hp) ?_; refine .a ?_; exact .sq <| .t <| .retM (F' := fo []) (ds' := []) (v := .int .i64 (n : Nat)) (.inl rfl) rfl (.tmp rfl <| .nil) (fun H => rfl) (.nil) .nil rfl rfl (⟨rfl, rfl, rfl⟩)
theorem openlist_order_uint32_Less_M {ba cap n : Nat} {tl : List Value} {A : List QEnt} {i k : Int} (hn : A.length = n) (hN : NdE A) (i0 : 0 ≤ i) (i1 : i < A.length) (k0 : 0 ≤ k) (k1 : k < A.length) : DoesM Tryz.prog 180 [slc ba n cap, .int .i64 (i), .int .i64 (k)] [] 2 (fo [oneO ba (.c 160 (arrV A ++ tl)), enF A]) (fun v F' ds' => ∃ c : Bool, v = .bool c ∧ F' = fo [oneO ba (.c 160 (arrV A ++ tl)), enF A] ∧ ds' = []) := by
 refine DoesM.of_body Tryz.func180 rfl rfl (by simp) Tryz.call180 (.inr fun v F' ds' h => ⟨0, ba, 0, by decide, by decide, by simp [fo, oneO], by obtain ⟨_, _, rfl, _⟩ := h; simp [fo, oneO]⟩) (fun Oc W => ?_); refine .g <| .r <| .a ?_; refine .sq <| .g <| PC.start [] ?_; refine .mm ?_; refine .x (OpSem.idxO rfl rfl rfl es157 (by omega) (by omega)) ?_; refine .x (OpSem.loadO (h := 0) rfl rfl rfl vs160 oneO_s (arr_at i0 i1)) ?_; refine .x (OpSem.nilv rfl rfl) ?_; refine .x (OpSem.fieldv rfl rfl fo163_1) ?_; refine .x (OpSem.loadO (h := 1) rfl rfl rfl vs3 (ent_at hN i0 i1) rfl) ?_; refine .mm ?_; refine .x (OpSem.idxO rfl rfl rfl es157 (by omega) (by omega)) ?_; refine .x (OpSem.loadO (h := 0) rfl rfl rfl vs160 oneO_s (arr_at k0 k1)) ?_; refine .x (OpSem.nilv rfl rfl) ?_; refine .x (OpSem.fieldv rfl rfl fo163_1) ?_; refine .x (OpSem.loadO (h := 1) rfl rfl rfl vs3 (ent_at hN k0 k1) rfl) ?_; refine .x (.b blss) ?_; refine .m ?_; refine .split (n := 22) rfl (fun c22 => ?_) (fun c22 => ?_)
 ·refine .hf c22 ?_; refine .hf c22 ?_; refine .hf c22 ?_; refine .hf c22 ?_; refine .hf c22 ?_; refine .hf c22 ?_; refine .hf c22 ?_; refine .hf c22 ?_; refine .hf c22 ?_; refine .hf c22 ?_; refine .hf c22 ?_; refine .hf c22 ?_; refine .hf c22 ?_; refine .hf c22 ?_; refine .hf c22 ?_; refine .hf c22 ?_; refine .gU rfl rfl rfl rfl rfl ?_; refine .gU rfl rfl rfl rfl rfl ?_; refine .gU rfl rfl rfl rfl rfl ?_; refine .gU rfl rfl rfl rfl rfl ?_; refine .gU rfl rfl rfl rfl rfl ?_; refine .gU rfl rfl rfl rfl rfl ?_; refine .gU rfl rfl rfl rfl rfl ?_; refine .gU rfl rfl rfl rfl rfl ?_; refine .gU rfl rfl rfl rfl rfl ?_; refine .gU rfl rfl rfl rfl rfl ?_; refine .gU rfl rfl rfl rfl rfl ?_; refine .gU rfl rfl rfl rfl rfl ?_; refine .gU rfl rfl rfl rfl rfl ?_; refine .gU rfl rfl rfl rfl rfl ?_; refine .d0 mixed ?_; refine .gu ?_; refine .hf c22 ?_; refine .x (OpSem.pickT rfl rfl c22 rfl) ?_; refine .a ?_; exact .sq <| .t <| .retM (F' := fo [oneO ba (.c 160 (arrV A ++ tl)), enF A]) (ds' := []) (v := .bool _) (.inl rfl) rfl (.tmp rfl <| .nil) (fun H => rfl) (.cons rfl <| .cons rfl <| .nil) .nil rfl rfl (⟨_, rfl, rfl, rfl⟩)
 ·refine .ht (OpSem.move (.inl rfl) rfl) c22 ?_; refine .ht (OpSem.move (.inl rfl) rfl) c22 ?_; refine .ht (OpSem.idxO rfl rfl rfl es157 (by omega) (by omega)) c22 ?_; refine .ht (OpSem.loadO (h := 0) rfl rfl rfl vs160 oneO_s (arr_at i0 i1)) c22 ?_; refine .ht (OpSem.nilv rfl rfl) c22 ?_; refine .ht (OpSem.fieldv rfl rfl fo163_1) c22 ?_; refine .ht (OpSem.loadO (h := 1) rfl rfl rfl vs3 (ent_at hN i0 i1) rfl) c22 ?_; refine .ht (OpSem.move (.inl rfl) rfl) c22 ?_; refine .ht (OpSem.move (.inl rfl) rfl) c22 ?_; refine .ht (OpSem.idxO rfl rfl rfl es157 (by omega) (by omega)) c22 ?_; refine .ht (OpSem.loadO (h := 0) rfl rfl rfl vs160 oneO_s (arr_at k0 k1)) c22 ?_; refine .ht (OpSem.nilv rfl rfl) c22 ?_; refine .ht (OpSem.fieldv rfl rfl fo163_1) c22 ?_; refine .ht (OpSem.loadO (h := 1) rfl rfl rfl vs3 (ent_at hN k0 k1) rfl) c22 ?_; refine .ht (.b beql) c22 ?_; refine .ht (OpSem.move (.inl rfl) rfl) c22 ?_; refine .split (n := 38) rfl (fun c38 => ?_) (fun c38 => ?_)
  ·refine .gt (OpSem.move (.inl rfl) rfl) c38 ?_; refine .gt (OpSem.move (.inl rfl) rfl) c38 ?_; refine .gt (OpSem.idxO rfl rfl rfl es157 (by omega) (by omega)) c38 ?_; refine .gt (OpSem.loadO (h := 0) rfl rfl rfl vs160 oneO_s (arr_at i0 i1)) c38 ?_; refine .gt (OpSem.nilv rfl rfl) c38 ?_; refine .gt (OpSem.fieldv rfl rfl fo163_2) c38 ?_; refine .gt (OpSem.loadO (h := 1) rfl rfl rfl vs3 (ent_at hN i0 i1) rfl) c38 ?_; refine .gt (OpSem.move (.inl rfl) rfl) c38 ?_; refine .gt (OpSem.move (.inl rfl) rfl) c38 ?_; refine .gt (OpSem.idxO rfl rfl rfl es157 (by omega) (by omega)) c38 ?_; refine .gt (OpSem.loadO (h := 0) rfl rfl rfl vs160 oneO_s (arr_at k0 k1)) c38 ?_; refine .gt (OpSem.nilv rfl rfl) c38 ?_; refine .gt (OpSem.fieldv rfl rfl fo163_2) c38 ?_; refine .gt (OpSem.loadO (h := 1) rfl rfl rfl vs3 (ent_at hN k0 k1) rfl) c38 ?_; refine .d0 mixed ?_; refine .gt c38 ?_; refine .x (.b blss) ?_; refine .ht c22 ?_; refine .x (OpSem.pickT rfl rfl c38 rfl) ?_; refine .x (OpSem.pickF rfl rfl c22 rfl) ?_; refine .a ?_; exact .sq <| .t <| .retM (F' := fo [oneO ba (.c 160 (arrV A ++ tl)), enF A]) (ds' := []) (v := .bool _) (.inl rfl) rfl (.tmp rfl <| .nil) (fun H => rfl) (.cons rfl <| .cons rfl <| .nil) .nil rfl rfl (⟨_, rfl, rfl, rfl⟩)
  ·refine .gf c38 ?_; refine .gf c38 ?_; refine .gf c38 ?_; refine .gf c38 ?_; refine .gf c38 ?_; refine .gf c38 ?_; refine .gf c38 ?_; refine .gf c38 ?_; refine .gf c38 ?_; refine .gf c38 ?_; refine .gf c38 ?_; refine .gf c38 ?_; refine .gf c38 ?_; refine .gf c38 ?_; refine .d0 mixed ?_; refine .gf c38 ?_; refine .ht c22 ?_; refine .x (OpSem.pickF rfl rfl c38 rfl) ?_; refine .x (OpSem.pickF rfl rfl c22 rfl) ?_; refine .a ?_; exact .sq <| .t <| .retM (F' := fo [oneO ba (.c 160 (arrV A ++ tl)), enF A]) (ds' := []) (v := .bool _) (.inl rfl) rfl (.tmp rfl <| .nil) (fun H => rfl) (.cons rfl <| .cons rfl <| .nil) .nil rfl rfl (⟨_, rfl, rfl, rfl⟩)
theorem openlist_order_uint32_Swap_M {ba cap n : Nat} {tl : List Value} {A : List QEnt} {i k : Int} (hn : A.length = n) (hN : NdE A) (i0 : 0 ≤ i) (i1 : i < A.length) (k0 : 0 ≤ k) (k1 : k < A.length) : DoesM Tryz.prog 181 [slc ba n cap, .int .i64 (i), .int .i64 (k)] [] 2 (fo [oneO ba (.c 160 (arrV A ++ tl)), enF A]) (fun v F' ds' => v = .tuple #[] ∧ F' = fo [oneO ba (.c 160 (arrV (swE A i k) ++ tl)), enF (swE A i k)] ∧ ds' = []) := by
 have hNs := swL_nd i0 i1 k0 k1 hN
 have hls : (swL A i k).length = A.length := swL_len
 have hNt := nd_set hNs i0 (by omega) (y := (nth (swL A i k) i).mv i) rfl
 have hlt : ((swL A i k).set i.toNat ((nth (swL A i k) i).mv i)).length = A.length := by simp [swL_len]
 have hbk : (nth (swL A i k) k).blk = (nth ((swL A i k).set i.toNat ((nth (swL A i k) i).mv i)) k).blk := by rw [nth_setZ i0 k0 (by omega)]; by_cases e : k = i; (rw [if_pos e, e]; rfl); rw [if_neg e]
 refine DoesM.of_body Tryz.func181 rfl rfl (by simp) Tryz.call181 (.inr fun v F' ds' h => ⟨0, ba, 0, by decide, by decide, by simp [fo, oneO], by obtain ⟨_, rfl, _⟩ := h; simp [fo, oneO]⟩) (fun Oc W => ?_); refine .g <| PC.start [] ?_; refine .mm ?_; refine .mm ?_; refine .mm ?_; refine .x (OpSem.idxO rfl rfl rfl es157 (by omega) (by omega)) ?_; refine .x (OpSem.loadO (h := 0) rfl rfl rfl vs160 oneO_s (arr_at k0 k1)) ?_; refine .mm ?_; refine .x (OpSem.idxO rfl rfl rfl es157 (by omega) (by omega)) ?_; refine .x (OpSem.loadO (h := 0) rfl rfl rfl vs160 oneO_s (arr_at i0 i1)) ?_; refine .x (OpSem.idxO rfl rfl rfl es157 (by omega) (by omega)) ?_; refine .doneS [2, 3] [[], [3], [2], [2, 3]] mixed (by kernel_rfl) (by kernel_rfl) (by kernel_rfl) (by kernel_rfl) (by kernel_rfl) (by decide) rfl (by kernel_rfl) ⟨?_, ?_, ?_, ?_, trivial⟩
 ·refine ⟨[], _, by kernel_rfl, by repeat' (first | exact .nil | (apply DropRs.hit; rfl) | (apply DropRs.miss; rfl)), ?_⟩; refine .ofSt0' (OpSt.storeO (h := 0) (F' := oneO ba (.c 160 ((arrV A ++ tl).set i.toNat (ptr (nth A k).blk 0)))) rfl rfl rfl vs160 oneO_s (by simp [arrV]; omega) rfl (by rw [updO_one, Nat.zero_add, Nat.mul_one])) rfl rfl rfl ?_; refine TrSet.start ?_; refine .zero ?_; refine .x (OpSem.idxO rfl rfl rfl es157 (by omega) (by omega)) ?_; refine .ofSt0' (OpSt.storeO (h := 0) (F' := oneO ba (.c 160 (arrV (swL A i k) ++ tl))) rfl rfl rfl vs160 oneO_s (by simp [arrV]; omega) rfl (by rw [updO_one, Nat.zero_add, Nat.mul_one, swL_arr i0 i1 k0 k1])) rfl rfl rfl ?_; refine .poEq 1 rfl (swL_ent i0 i1 k0 k1 hN).symm ?_; refine .sq <| PC.start [] ?_; refine .mm ?_; refine .x (OpSem.idxO rfl rfl rfl es157 (by omega) (by omega)) ?_; refine .x (OpSem.loadO (h := 0) rfl rfl rfl vs160 oneO_s (arr_at i0 (by rw [swL_len]; exact i1))) ?_; refine .mm ?_; refine .x (OpSem.idxO rfl rfl rfl es157 (by omega) (by omega)) ?_; refine .x (OpSem.loadO (h := 0) rfl rfl rfl vs160 oneO_s (arr_at k0 (by rw [swL_len]; exact k1))) ?_; refine .mm ?_; refine .x (OpSem.nilv rfl rfl) ?_; refine .x (OpSem.fieldv rfl rfl fo163_3) ?_; refine .doneS [9] [[], [9]] mixed (by kernel_rfl) (by kernel_rfl) (by kernel_rfl) (by kernel_rfl) (by kernel_rfl) (by decide) rfl (by kernel_rfl) ⟨?_, ?_, trivial⟩
  ·refine ⟨[], _, by kernel_rfl, by repeat' (first | exact .nil | (apply DropRs.hit; rfl) | (apply DropRs.miss; rfl)), ?_⟩; refine .ofSt0' (OpSt.storeO (h := 1) (F' := enF ((swL A i k).set i.toNat ((nth (swL A i k) i).mv i))) rfl rfl rfl vs3 (ent_at hNs i0 (by omega)) (by simp [entC]) rfl (ent_set (y := (nth (swL A i k) i).mv i) hNs i0 (by omega) rfl)) rfl rfl rfl ?_; refine TrSet.start ?_; refine .zero ?_; refine .x (OpSem.nilv rfl rfl) ?_; refine .x (OpSem.fieldv rfl rfl fo163_3) ?_; refine .ofSt0' (OpSt.storeO (h := 1) (F' := enF (swE A i k)) rfl rfl rfl vs3 (by rw [hbk]; exact ent_at hNt k0 (by omega)) (by simp [entC]) rfl (by rw [hbk]; exact ent_set (y := (nth ((swL A i k).set i.toNat ((nth (swL A i k) i).mv i)) k).mv k) hNt k0 (by omega) rfl)) rfl rfl rfl ?_; exact .n <| .retM (F' := fo [oneO ba (.c 160 (arrV (swL A i k) ++ tl)), enF (swE A i k)]) (ds' := []) (v := .tuple #[]) (.inr rfl) rfl (.nil) (fun H => rfl) (.cons rfl <| .cons rfl <| .nil) .nil rfl rfl (⟨rfl, by rw [swE_arr i0 i1 k0 k1], rfl⟩)
  ·refine ⟨[29], _, by kernel_rfl, by repeat' (first | exact .nil | (apply DropRs.hit; rfl) | (apply DropRs.miss; rfl)), ?_⟩; refine .ofSt0' (OpSt.storeO (h := 1) (F' := enF ((swL A i k).set i.toNat ((nth (swL A i k) i).mv i))) rfl rfl rfl vs3 (ent_at hNs i0 (by omega)) (by simp [entC]) rfl (ent_set (y := (nth (swL A i k) i).mv i) hNs i0 (by omega) rfl)) rfl rfl rfl ?_; refine TrSet.start ?_; refine .succ ⟨?_, trivial⟩
   ·refine .inr (TrI.sem rfl (OpSem.move (.inl rfl) rfl) rfl rfl (by decide) rfl ?_); refine .zero ?_; refine .x (OpSem.nilv rfl rfl) ?_; refine .x (OpSem.fieldv rfl rfl fo163_3) ?_; refine .ofSt0' (OpSt.storeO (h := 1) (F' := enF (swE A i k)) rfl rfl rfl vs3 (by rw [hbk]; exact ent_at hNt k0 (by omega)) (by simp [entC]) rfl (by rw [hbk]; exact ent_set (y := (nth ((swL A i k).set i.toNat ((nth (swL A i k) i).mv i)) k).mv k) hNt k0 (by omega) rfl)) rfl rfl rfl ?_; exact .n <| .retM (F' := fo [oneO ba (.c 160 (arrV (swL A i k) ++ tl)), enF (swE A i k)]) (ds' := []) (v := .tuple #[]) (.inr rfl) rfl (.nil) (fun H => rfl) (.cons rfl <| .cons rfl <| .nil) .nil rfl rfl (⟨rfl, by rw [swE_arr i0 i1 k0 k1], rfl⟩)
 ·refine ⟨[9], _, by kernel_rfl, by repeat' (first | exact .nil | (apply DropRs.hit; rfl) | (apply DropRs.miss; rfl)), ?_⟩; refine .ofSt0' (OpSt.storeO (h := 0) (F' := oneO ba (.c 160 ((arrV A ++ tl).set i.toNat (ptr (nth A k).blk 0)))) rfl rfl rfl vs160 oneO_s (by simp [arrV]; omega) rfl (by rw [updO_one, Nat.zero_add, Nat.mul_one])) rfl rfl rfl ?_; refine TrSet.start ?_; refine .succ ⟨?_, trivial⟩
  ·refine .inr (TrI.sem rfl (OpSem.move (.inl rfl) rfl) rfl rfl (by decide) rfl ?_); refine .zero ?_; refine .x (OpSem.idxO rfl rfl rfl es157 (by omega) (by omega)) ?_; refine .ofSt0' (OpSt.storeO (h := 0) (F' := oneO ba (.c 160 (arrV (swL A i k) ++ tl))) rfl rfl rfl vs160 oneO_s (by simp [arrV]; omega) rfl (by rw [updO_one, Nat.zero_add, Nat.mul_one, swL_arr i0 i1 k0 k1])) rfl rfl rfl ?_; refine .poEq 1 rfl (swL_ent i0 i1 k0 k1 hN).symm ?_; refine .sq <| PC.start [] ?_; refine .mm ?_; refine .x (OpSem.idxO rfl rfl rfl es157 (by omega) (by omega)) ?_; refine .x (OpSem.loadO (h := 0) rfl rfl rfl vs160 oneO_s (arr_at i0 (by rw [swL_len]; exact i1))) ?_; refine .mm ?_; refine .x (OpSem.idxO rfl rfl rfl es157 (by omega) (by omega)) ?_; refine .x (OpSem.loadO (h := 0) rfl rfl rfl vs160 oneO_s (arr_at k0 (by rw [swL_len]; exact k1))) ?_; refine .mm ?_; refine .x (OpSem.nilv rfl rfl) ?_; refine .x (OpSem.fieldv rfl rfl fo163_3) ?_; refine .doneS [9] [[], [9]] mixed (by kernel_rfl) (by kernel_rfl) (by kernel_rfl) (by kernel_rfl) (by kernel_rfl) (by decide) rfl (by kernel_rfl) ⟨?_, ?_, trivial⟩
   ·refine ⟨[], _, by kernel_rfl, by repeat' (first | exact .nil | (apply DropRs.hit; rfl) | (apply DropRs.miss; rfl)), ?_⟩; refine .ofSt0' (OpSt.storeO (h := 1) (F' := enF ((swL A i k).set i.toNat ((nth (swL A i k) i).mv i))) rfl rfl rfl vs3 (ent_at hNs i0 (by omega)) (by simp [entC]) rfl (ent_set (y := (nth (swL A i k) i).mv i) hNs i0 (by omega) rfl)) rfl rfl rfl ?_; refine TrSet.start ?_; refine .zero ?_; refine .x (OpSem.nilv rfl rfl) ?_; refine .x (OpSem.fieldv rfl rfl fo163_3) ?_; refine .ofSt0' (OpSt.storeO (h := 1) (F' := enF (swE A i k)) rfl rfl rfl vs3 (by rw [hbk]; exact ent_at hNt k0 (by omega)) (by simp [entC]) rfl (by rw [hbk]; exact ent_set (y := (nth ((swL A i k).set i.toNat ((nth (swL A i k) i).mv i)) k).mv k) hNt k0 (by omega) rfl)) rfl rfl rfl ?_; exact .n <| .retM (F' := fo [oneO ba (.c 160 (arrV (swL A i k) ++ tl)), enF (swE A i k)]) (ds' := []) (v := .tuple #[]) (.inr rfl) rfl (.nil) (fun H => rfl) (.cons rfl <| .cons rfl <| .nil) .nil rfl rfl (⟨rfl, by rw [swE_arr i0 i1 k0 k1], rfl⟩)
   ·refine ⟨[29], _, by kernel_rfl, by repeat' (first | exact .nil | (apply DropRs.hit; rfl) | (apply DropRs.miss; rfl)), ?_⟩; refine .ofSt0' (OpSt.storeO (h := 1) (F' := enF ((swL A i k).set i.toNat ((nth (swL A i k) i).mv i))) rfl rfl rfl vs3 (ent_at hNs i0 (by omega)) (by simp [entC]) rfl (ent_set (y := (nth (swL A i k) i).mv i) hNs i0 (by omega) rfl)) rfl rfl rfl ?_; refine TrSet.start ?_; refine .succ ⟨?_, trivial⟩
    ·refine .inr (TrI.sem rfl (OpSem.move (.inl rfl) rfl) rfl rfl (by decide) rfl ?_); refine .zero ?_; refine .x (OpSem.nilv rfl rfl) ?_; refine .x (OpSem.fieldv rfl rfl fo163_3) ?_; refine .ofSt0' (OpSt.storeO (h := 1) (F' := enF (swE A i k)) rfl rfl rfl vs3 (by rw [hbk]; exact ent_at hNt k0 (by omega)) (by simp [entC]) rfl (by rw [hbk]; exact ent_set (y := (nth ((swL A i k).set i.toNat ((nth (swL A i k) i).mv i)) k).mv k) hNt k0 (by omega) rfl)) rfl rfl rfl ?_; exact .n <| .retM (F' := fo [oneO ba (.c 160 (arrV (swL A i k) ++ tl)), enF (swE A i k)]) (ds' := []) (v := .tuple #[]) (.inr rfl) rfl (.nil) (fun H => rfl) (.cons rfl <| .cons rfl <| .nil) .nil rfl rfl (⟨rfl, by rw [swE_arr i0 i1 k0 k1], rfl⟩)
 ·refine ⟨[8], _, by kernel_rfl, by repeat' (first | exact .nil | (apply DropRs.hit; rfl) | (apply DropRs.miss; rfl)), ?_⟩; refine .ofSt0' (OpSt.storeO (h := 0) (F' := oneO ba (.c 160 ((arrV A ++ tl).set i.toNat (ptr (nth A k).blk 0)))) rfl rfl rfl vs160 oneO_s (by simp [arrV]; omega) rfl (by rw [updO_one, Nat.zero_add, Nat.mul_one])) rfl rfl rfl ?_; refine TrSet.start ?_; refine .succ ⟨?_, trivial⟩
  ·refine .inr (TrI.sem rfl (OpSem.move (.inl rfl) rfl) rfl rfl (by decide) rfl ?_); refine .zero ?_; refine .x (OpSem.idxO rfl rfl rfl es157 (by omega) (by omega)) ?_; refine .ofSt0' (OpSt.storeO (h := 0) (F' := oneO ba (.c 160 (arrV (swL A i k) ++ tl))) rfl rfl rfl vs160 oneO_s (by simp [arrV]; omega) rfl (by rw [updO_one, Nat.zero_add, Nat.mul_one, swL_arr i0 i1 k0 k1])) rfl rfl rfl ?_; refine .poEq 1 rfl (swL_ent i0 i1 k0 k1 hN).symm ?_; refine .sq <| PC.start [] ?_; refine .mm ?_; refine .x (OpSem.idxO rfl rfl rfl es157 (by omega) (by omega)) ?_; refine .x (OpSem.loadO (h := 0) rfl rfl rfl vs160 oneO_s (arr_at i0 (by rw [swL_len]; exact i1))) ?_; refine .mm ?_; refine .x (OpSem.idxO rfl rfl rfl es157 (by omega) (by omega)) ?_; refine .x (OpSem.loadO (h := 0) rfl rfl rfl vs160 oneO_s (arr_at k0 (by rw [swL_len]; exact k1))) ?_; refine .mm ?_; refine .x (OpSem.nilv rfl rfl) ?_; refine .x (OpSem.fieldv rfl rfl fo163_3) ?_; refine .doneS [9] [[], [9]] mixed (by kernel_rfl) (by kernel_rfl) (by kernel_rfl) (by kernel_rfl) (by kernel_rfl) (by decide) rfl (by kernel_rfl) ⟨?_, ?_, trivial⟩
   ·refine ⟨[], _, by kernel_rfl, by repeat' (first | exact .nil | (apply DropRs.hit; rfl) | (apply DropRs.miss; rfl)), ?_⟩; refine .ofSt0' (OpSt.storeO (h := 1) (F' := enF ((swL A i k).set i.toNat ((nth (swL A i k) i).mv i))) rfl rfl rfl vs3 (ent_at hNs i0 (by omega)) (by simp [entC]) rfl (ent_set (y := (nth (swL A i k) i).mv i) hNs i0 (by omega) rfl)) rfl rfl rfl ?_; refine TrSet.start ?_; refine .zero ?_; refine .x (OpSem.nilv rfl rfl) ?_; refine .x (OpSem.fieldv rfl rfl fo163_3) ?_; refine .ofSt0' (OpSt.storeO (h := 1) (F' := enF (swE A i k)) rfl rfl rfl vs3 (by rw [hbk]; exact ent_at hNt k0 (by omega)) (by simp [entC]) rfl (by rw [hbk]; exact ent_set (y := (nth ((swL A i k).set i.toNat ((nth (swL A i k) i).mv i)) k).mv k) hNt k0 (by omega) rfl)) rfl rfl rfl ?_; exact .n <| .retM (F' := fo [oneO ba (.c 160 (arrV (swL A i k) ++ tl)), enF (swE A i k)]) (ds' := []) (v := .tuple #[]) (.inr rfl) rfl (.nil) (fun H => rfl) (.cons rfl <| .cons rfl <| .nil) .nil rfl rfl (⟨rfl, by rw [swE_arr i0 i1 k0 k1], rfl⟩)
   ·refine ⟨[29], _, by kernel_rfl, by repeat' (first | exact .nil | (apply DropRs.hit; rfl) | (apply DropRs.miss; rfl)), ?_⟩; refine .ofSt0' (OpSt.storeO (h := 1) (F' := enF ((swL A i k).set i.toNat ((nth (swL A i k) i).mv i))) rfl rfl rfl vs3 (ent_at hNs i0 (by omega)) (by simp [entC]) rfl (ent_set (y := (nth (swL A i k) i).mv i) hNs i0 (by omega) rfl)) rfl rfl rfl ?_; refine TrSet.start ?_; refine .succ ⟨?_, trivial⟩
    ·refine .inr (TrI.sem rfl (OpSem.move (.inl rfl) rfl) rfl rfl (by decide) rfl ?_); refine .zero ?_; refine .x (OpSem.nilv rfl rfl) ?_; refine .x (OpSem.fieldv rfl rfl fo163_3) ?_; refine .ofSt0' (OpSt.storeO (h := 1) (F' := enF (swE A i k)) rfl rfl rfl vs3 (by rw [hbk]; exact ent_at hNt k0 (by omega)) (by simp [entC]) rfl (by rw [hbk]; exact ent_set (y := (nth ((swL A i k).set i.toNat ((nth (swL A i k) i).mv i)) k).mv k) hNt k0 (by omega) rfl)) rfl rfl rfl ?_; exact .n <| .retM (F' := fo [oneO ba (.c 160 (arrV (swL A i k) ++ tl)), enF (swE A i k)]) (ds' := []) (v := .tuple #[]) (.inr rfl) rfl (.nil) (fun H => rfl) (.cons rfl <| .cons rfl <| .nil) .nil rfl rfl (⟨rfl, by rw [swE_arr i0 i1 k0 k1], rfl⟩)
 ·refine ⟨[8, 9], _, by kernel_rfl, by repeat' (first | exact .nil | (apply DropRs.hit; rfl) | (apply DropRs.miss; rfl)), ?_⟩; refine .ofSt0' (OpSt.storeO (h := 0) (F' := oneO ba (.c 160 ((arrV A ++ tl).set i.toNat (ptr (nth A k).blk 0)))) rfl rfl rfl vs160 oneO_s (by simp [arrV]; omega) rfl (by rw [updO_one, Nat.zero_add, Nat.mul_one])) rfl rfl rfl ?_; refine TrSet.start ?_; refine .succ ⟨?_, ?_, trivial⟩
  ·refine .inr (TrI.sem rfl (OpSem.move (.inl rfl) rfl) rfl rfl (by decide) rfl ?_); refine .succ ⟨?_, trivial⟩
   ·refine .inr (TrI.sem rfl (OpSem.move (.inl rfl) rfl) rfl rfl (by decide) rfl ?_); refine .zero ?_; refine .x (OpSem.idxO rfl rfl rfl es157 (by omega) (by omega)) ?_; refine .ofSt0' (OpSt.storeO (h := 0) (F' := oneO ba (.c 160 (arrV (swL A i k) ++ tl))) rfl rfl rfl vs160 oneO_s (by simp [arrV]; omega) rfl (by rw [updO_one, Nat.zero_add, Nat.mul_one, swL_arr i0 i1 k0 k1])) rfl rfl rfl ?_; refine .poEq 1 rfl (swL_ent i0 i1 k0 k1 hN).symm ?_; refine .sq <| PC.start [] ?_; refine .mm ?_; refine .x (OpSem.idxO rfl rfl rfl es157 (by omega) (by omega)) ?_; refine .x (OpSem.loadO (h := 0) rfl rfl rfl vs160 oneO_s (arr_at i0 (by rw [swL_len]; exact i1))) ?_; refine .mm ?_; refine .x (OpSem.idxO rfl rfl rfl es157 (by omega) (by omega)) ?_; refine .x (OpSem.loadO (h := 0) rfl rfl rfl vs160 oneO_s (arr_at k0 (by rw [swL_len]; exact k1))) ?_; refine .mm ?_; refine .x (OpSem.nilv rfl rfl) ?_; refine .x (OpSem.fieldv rfl rfl fo163_3) ?_; refine .doneS [9] [[], [9]] mixed (by kernel_rfl) (by kernel_rfl) (by kernel_rfl) (by kernel_rfl) (by kernel_rfl) (by decide) rfl (by kernel_rfl) ⟨?_, ?_, trivial⟩
    ·refine ⟨[], _, by kernel_rfl, by repeat' (first | exact .nil | (apply DropRs.hit; rfl) | (apply DropRs.miss; rfl)), ?_⟩; refine .ofSt0' (OpSt.storeO (h := 1) (F' := enF ((swL A i k).set i.toNat ((nth (swL A i k) i).mv i))) rfl rfl rfl vs3 (ent_at hNs i0 (by omega)) (by simp [entC]) rfl (ent_set (y := (nth (swL A i k) i).mv i) hNs i0 (by omega) rfl)) rfl rfl rfl ?_; refine TrSet.start ?_; refine .zero ?_; refine .x (OpSem.nilv rfl rfl) ?_; refine .x (OpSem.fieldv rfl rfl fo163_3) ?_; refine .ofSt0' (OpSt.storeO (h := 1) (F' := enF (swE A i k)) rfl rfl rfl vs3 (by rw [hbk]; exact ent_at hNt k0 (by omega)) (by simp [entC]) rfl (by rw [hbk]; exact ent_set (y := (nth ((swL A i k).set i.toNat ((nth (swL A i k) i).mv i)) k).mv k) hNt k0 (by omega) rfl)) rfl rfl rfl ?_; exact .n <| .retM (F' := fo [oneO ba (.c 160 (arrV (swL A i k) ++ tl)), enF (swE A i k)]) (ds' := []) (v := .tuple #[]) (.inr rfl) rfl (.nil) (fun H => rfl) (.cons rfl <| .cons rfl <| .nil) .nil rfl rfl (⟨rfl, by rw [swE_arr i0 i1 k0 k1], rfl⟩)
    ·refine ⟨[29], _, by kernel_rfl, by repeat' (first | exact .nil | (apply DropRs.hit; rfl) | (apply DropRs.miss; rfl)), ?_⟩; refine .ofSt0' (OpSt.storeO (h := 1) (F' := enF ((swL A i k).set i.toNat ((nth (swL A i k) i).mv i))) rfl rfl rfl vs3 (ent_at hNs i0 (by omega)) (by simp [entC]) rfl (ent_set (y := (nth (swL A i k) i).mv i) hNs i0 (by omega) rfl)) rfl rfl rfl ?_; refine TrSet.start ?_; refine .succ ⟨?_, trivial⟩
     ·refine .inr (TrI.sem rfl (OpSem.move (.inl rfl) rfl) rfl rfl (by decide) rfl ?_); refine .zero ?_; refine .x (OpSem.nilv rfl rfl) ?_; refine .x (OpSem.fieldv rfl rfl fo163_3) ?_; refine .ofSt0' (OpSt.storeO (h := 1) (F' := enF (swE A i k)) rfl rfl rfl vs3 (by rw [hbk]; exact ent_at hNt k0 (by omega)) (by simp [entC]) rfl (by rw [hbk]; exact ent_set (y := (nth ((swL A i k).set i.toNat ((nth (swL A i k) i).mv i)) k).mv k) hNt k0 (by omega) rfl)) rfl rfl rfl ?_; exact .n <| .retM (F' := fo [oneO ba (.c 160 (arrV (swL A i k) ++ tl)), enF (swE A i k)]) (ds' := []) (v := .tuple #[]) (.inr rfl) rfl (.nil) (fun H => rfl) (.cons rfl <| .cons rfl <| .nil) .nil rfl rfl (⟨rfl, by rw [swE_arr i0 i1 k0 k1], rfl⟩)
  ·refine .inr (TrI.sem rfl (OpSem.move (.inl rfl) rfl) rfl rfl (by decide) rfl ?_); refine .succ ⟨?_, trivial⟩
   ·refine .inr (TrI.sem rfl (OpSem.move (.inl rfl) rfl) rfl rfl (by decide) rfl ?_); refine .zero ?_; refine .x (OpSem.idxO rfl rfl rfl es157 (by omega) (by omega)) ?_; refine .ofSt0' (OpSt.storeO (h := 0) (F' := oneO ba (.c 160 (arrV (swL A i k) ++ tl))) rfl rfl rfl vs160 oneO_s (by simp [arrV]; omega) rfl (by rw [updO_one, Nat.zero_add, Nat.mul_one, swL_arr i0 i1 k0 k1])) rfl rfl rfl ?_; refine .poEq 1 rfl (swL_ent i0 i1 k0 k1 hN).symm ?_; refine .sq <| PC.start [] ?_; refine .mm ?_; refine .x (OpSem.idxO rfl rfl rfl es157 (by omega) (by omega)) ?_; refine .x (OpSem.loadO (h := 0) rfl rfl rfl vs160 oneO_s (arr_at i0 (by rw [swL_len]; exact i1))) ?_; refine .mm ?_; refine .x (OpSem.idxO rfl rfl rfl es157 (by omega) (by omega)) ?_; refine .x (OpSem.loadO (h := 0) rfl rfl rfl vs160 oneO_s (arr_at k0 (by rw [swL_len]; exact k1))) ?_; refine .mm ?_; refine .x (OpSem.nilv rfl rfl) ?_; refine .x (OpSem.fieldv rfl rfl fo163_3) ?_; refine .doneS [9] [[], [9]] mixed (by kernel_rfl) (by kernel_rfl) (by kernel_rfl) (by kernel_rfl) (by kernel_rfl) (by decide) rfl (by kernel_rfl) ⟨?_, ?_, trivial⟩
    ·refine ⟨[], _, by kernel_rfl, by repeat' (first | exact .nil | (apply DropRs.hit; rfl) | (apply DropRs.miss; rfl)), ?_⟩; refine .ofSt0' (OpSt.storeO (h := 1) (F' := enF ((swL A i k).set i.toNat ((nth (swL A i k) i).mv i))) rfl rfl rfl vs3 (ent_at hNs i0 (by omega)) (by simp [entC]) rfl (ent_set (y := (nth (swL A i k) i).mv i) hNs i0 (by omega) rfl)) rfl rfl rfl ?_; refine TrSet.start ?_; refine .zero ?_; refine .x (OpSem.nilv rfl rfl) ?_; refine .x (OpSem.fieldv rfl rfl fo163_3) ?_; refine .ofSt0' (OpSt.storeO (h := 1) (F' := enF (swE A i k)) rfl rfl rfl vs3 (by rw [hbk]; exact ent_at hNt k0 (by omega)) (by simp [entC]) rfl (by rw [hbk]; exact ent_set (y := (nth ((swL A i k).set i.toNat ((nth (swL A i k) i).mv i)) k).mv k) hNt k0 (by omega) rfl)) rfl rfl rfl ?_; exact .n <| .retM (F' := fo [oneO ba (.c 160 (arrV (swL A i k) ++ tl)), enF (swE A i k)]) (ds' := []) (v := .tuple #[]) (.inr rfl) rfl (.nil) (fun H => rfl) (.cons rfl <| .cons rfl <| .nil) .nil rfl rfl (⟨rfl, by rw [swE_arr i0 i1 k0 k1], rfl⟩)
    ·refine ⟨[29], _, by kernel_rfl, by repeat' (first | exact .nil | (apply DropRs.hit; rfl) | (apply DropRs.miss; rfl)), ?_⟩; refine .ofSt0' (OpSt.storeO (h := 1) (F' := enF ((swL A i k).set i.toNat ((nth (swL A i k) i).mv i))) rfl rfl rfl vs3 (ent_at hNs i0 (by omega)) (by simp [entC]) rfl (ent_set (y := (nth (swL A i k) i).mv i) hNs i0 (by omega) rfl)) rfl rfl rfl ?_; refine TrSet.start ?_; refine .succ ⟨?_, trivial⟩
     ·refine .inr (TrI.sem rfl (OpSem.move (.inl rfl) rfl) rfl rfl (by decide) rfl ?_); refine .zero ?_; refine .x (OpSem.nilv rfl rfl) ?_; refine .x (OpSem.fieldv rfl rfl fo163_3) ?_; refine .ofSt0' (OpSt.storeO (h := 1) (F' := enF (swE A i k)) rfl rfl rfl vs3 (by rw [hbk]; exact ent_at hNt k0 (by omega)) (by simp [entC]) rfl (by rw [hbk]; exact ent_set (y := (nth ((swL A i k).set i.toNat ((nth (swL A i k) i).mv i)) k).mv k) hNt k0 (by omega) rfl)) rfl rfl rfl ?_; exact .n <| .retM (F' := fo [oneO ba (.c 160 (arrV (swL A i k) ++ tl)), enF (swE A i k)]) (ds' := []) (v := .tuple #[]) (.inr rfl) rfl (.nil) (fun H => rfl) (.cons rfl <| .cons rfl <| .nil) .nil rfl rfl (⟨rfl, by rw [swE_arr i0 i1 k0 k1], rfl⟩)
theorem openlist_order_uint32_Pop_M {q Tq ba cap n : Nat} {v1 v2 : Value} {tl : List Value} {A : List QEnt} {x : QEnt} (hn : A.length = n) (hm : n ≤ 1000000) (hc : n + 1 ≤ cap) : DoesM Tryz.prog 182 [ptr q 0] [] 2 (fo [oneO q (.c Tq [slc ba (n + 1) cap, v1, v2]), oneO ba (.c 160 (arrV (A ++ [x]) ++ tl))]) (fun v F' ds' => v = .iface 160 (ptr x.blk 0) ∧ F' = fo [oneO q (.c Tq [slc ba n cap, v1, v2]), oneO ba (.c 160 (arrV (A ++ [x]) ++ tl))] ∧ ds' = []) := by
 refine DoesM.of_body Tryz.func182 rfl rfl (by simp) Tryz.call182 (.inr fun v F' ds' h => ⟨0, q, 0, by decide, by decide, by simp [fo, oneO], by obtain ⟨_, rfl, _⟩ := h; simp [fo, oneO]⟩) (fun Oc W => ?_); refine .g <| .r <| .a ?_; refine .z <| .m ?_; refine .x (OpSem.nilv rfl rfl) ?_; refine .x (OpSem.loadO (h := 0) rfl rfl rfl vs157 oneO_s rfl) ?_; refine .a ?_; refine .z <| .mm ?_; refine .x (OpSem.lenv rfl rfl es157) ?_; refine .x .su ?_; refine .x (OpSem.idxO rfl rfl rfl es157 (by omega) (by omega)) ?_; refine .x (OpSem.loadO (h := 1) rfl rfl rfl vs160 oneO_s (arr_last hn)) ?_; refine .a ?_; refine .z <| .mm ?_; refine .m ?_; refine .x (OpSem.lenv rfl rfl es157) ?_; refine .x .su ?_; refine .x (OpSem.sliceO rfl rfl rfl es157 (by omega) (by omega)) ?_; refine .x (OpSem.nilv rfl rfl) ?_; refine .ofSt0' (OpSt.storeO (h := 0) (F' := oneO q (.c Tq [slc ba ((((n + 1 : Nat) : Int) - 1).toNat) cap, v1, v2])) rfl rfl rfl vs157 oneO_s (by simp) rfl updO_one) rfl rfl rfl ?_; refine .z <| .m ?_; refine .x (OpSem.mkI rfl rfl (by kernel_rfl)) ?_; refine .a ?_; exact .sq <| .t <| .retM (F' := fo [oneO q (.c Tq [slc ba (((n + 1 : Nat) : Int) - 1).toNat cap, v1, v2]), oneO ba (.c 160 (arrV (A ++ [x]) ++ tl))]) (ds' := []) (v := .iface 160 (ptr x.blk 0)) (.inl rfl) rfl (.tmp rfl <| .nil) (fun H => rfl) (.cons rfl <| .cons rfl <| .nil) .nil rfl rfl (⟨rfl, by rw [show (((n + 1 : Nat) : Int) - 1).toNat = n by omega], rfl⟩)
theorem openlist_order_uint32_Push_M {q Tq n : Nat} {v1 v2 : Value} {p : Pl} {A : List QEnt} {e : QEnt} (hn : A.length = n) (hN : NdE (A ++ [e])) (hp : PlOk p 1 n (arrV A)) (hm : n ≤ 1000000) : DoesM Tryz.prog 183 [ptr q 0, .iface 160 (ptr e.blk 0)] [] 3 (fo [oneO q (.c Tq [plV p n, v1, v2]), plMe 160 p (arrV A), enF (A ++ [e])]) (fun v F' ds' => ∃ b cap tl, v = .tuple #[] ∧ PlOk (some (b, cap, tl)) 1 (n + 1) (arrV (A ++ [e])) ∧ F' = fo [oneO q (.c Tq [slc b (n + 1) cap, v1, v2]), oneO b (.c 160 (arrV (A ++ [e]) ++ tl)), enF (A ++ [e.mv n])] ∧ ds' = []) := by
 refine DoesM.of_body Tryz.func183 rfl rfl (by simp) Tryz.call183 (.inr fun v F' ds' h => ⟨0, q, 0, by decide, by decide, by simp [fo, oneO], by obtain ⟨_, _, _, _, _, rfl, _⟩ := h; simp [fo, oneO]⟩) (fun Oc W => ?_); refine .g <| .r <| .m ?_; refine .x (OpSem.asI rfl rfl (by kernel_rfl)) ?_; refine .a ?_; refine .z <| .mm ?_; refine .x (OpSem.nilv rfl rfl) ?_; refine .x (OpSem.loadO (h := 0) rfl rfl rfl vs157 oneO_s rfl) ?_; refine .x (OpSem.lenPl rfl rfl es157 hp.e) ?_; refine .x (OpSem.nilv rfl rfl) ?_; refine .x (OpSem.fieldv rfl rfl fo163_3) ?_; refine .ofSt0' (OpSt.storeO (h := 2) (F' := enF (A ++ [e.mv n])) rfl rfl rfl vs3 (ent_in hN) (by simp [entC]) rfl (ent_app (i := (n : Nat)) hN)) rfl rfl rfl ?_; refine .y <| .mm ?_; refine .x (OpSem.nilv rfl rfl) ?_; refine .x (OpSem.loadO (h := 0) rfl rfl rfl vs157 oneO_s rfl) ?_; refine .m ?_; refine .x (.bs es157 ze157) ?_; refine .appendO1 (h := 1) (p := p) (l := arrV A) (v := ptr e.blk 0) rfl rfl rfl (by decide) rfl rfl rfl es157 el157 zc160 rfl by160 (by simpa [arrV] using hn) arrV_one rfl (by simp [maxLen]; omega) (by omega) hp (fun b cap tl hp2 => ?_); refine .x (OpSem.nilv rfl rfl) ?_; refine .ofSt0' (OpSt.storeO (h := 0) (F' := oneO q (.c Tq [slc b (n + 1) cap, v1, v2])) rfl rfl rfl vs157 oneO_s (by simp) rfl updO_one) rfl rfl rfl ?_; exact .n <| .retM (F' := fo [oneO q (.c Tq [slc b (n + 1) cap, v1, v2]), oneO b (.c 160 (arrV A ++ [ptr e.blk 0] ++ tl)), enF (A ++ [e.mv n])]) (ds' := []) (v := .tuple #[]) (.inr rfl) rfl (.nil) (fun H => rfl) (.cons rfl <| .cons rfl <| .cons rfl <| .nil) .nil rfl rfl (⟨b, cap, tl, rfl, by rw [← arrV_app]; exact hp2, by rw [arrV_app], rfl⟩)
theorem container_heap_up_M {q Tq ba cap n : Nat} {v1 v2 : Value} {tl : List Value} {A : List QEnt} (hn : A.length = n) (hm : n ≤ 1000000) (hQ : QOk A) {j : Int} (j0 : 0 ≤ j) (j1 : j < n) : DoesM Tryz.prog 110 [.iface 165 (ptr q 0), .int .i64 (j)] [] 3 (fo [oneO q (.c Tq [slc ba n cap, v1, v2]), oneO ba (.c 160 (arrV A ++ tl)), enF A]) (fun v F' ds' => ∃ A', v = .tuple #[] ∧ F' = fo [oneO q (.c Tq [slc ba n cap, v1, v2]), oneO ba (.c 160 (arrV A' ++ tl)), enF A'] ∧ ds' = [] ∧ QOk A' ∧ SameE A A') := by
 refine DoesM.of_body Tryz.func110 rfl rfl (by simp) Tryz.call110 (.inr fun v F' ds' h => ⟨0, q, 0, by decide, by decide, by simp [fo, oneO], by obtain ⟨_, _, rfl, _⟩ := h; simp [fo, oneO]⟩) (fun Oc W => ?_); refine .k <| .loop (X := List QEnt × Int) (fun x => QOk x.1 ∧ SameE A x.1 ∧ 0 ≤ x.2 ∧ x.2 < n) (fun x => [(0, .d (.v (.iface 165 (ptr q 0)))), (1, I (x.2))]) (fun x => [(0, poM (oneO q (.c Tq [slc ba n cap, v1, v2]))), (1, poM (oneO ba (.c 160 (arrV x.1 ++ tl)))), (2, poM (enF x.1)), (999, .any (restK Oc W)), (1000, .fr (frK Oc W))]) (fun x => x.2.toNat) (A, j) ⟨hQ, .refl _, j0, j1⟩ ?_ ?_
 ·exact .all
 ·rintro x ⟨hQ1, hS1, k0, k1⟩
  have hl1 : (x.1.length : Int) = n := by rw [← hS1.len, hn]
  have hi0 : 0 ≤ ((x.2 - 1).tdiv 2) := by have := k0; rcases Int.lt_or_le x.2 1 with h | h; (have : x.2 = 0 := by omega); (rw [this]; decide); exact Int.tdiv_nonneg (by omega) (by decide)
  have hi1 : ((x.2 - 1).tdiv 2) ≤ x.2 := by rcases Int.lt_or_le x.2 1 with h | h; (have e : x.2 = 0 := by omega); (rw [e]; decide); (rw [Int.tdiv_eq_ediv_of_nonneg (by omega)]; omega)
  refine .k <| .g <| .r <| .m ?_; refine .x .su ?_; refine .x (OpSem.bin rfl rfl rfl (bquoT (by omega) (by omega) (by decide))) ?_; refine .a ?_; refine .sq <| .g <| .g <| .r <| .mm ?_; refine .x (.b beql) ?_; refine .m ?_; refine .split (n := 11) rfl (fun c11 => ?_) (fun c11 => ?_)
  ·refine .hf c11 ?_; refine .hf c11 ?_; refine .hf c11 ?_; refine .hf c11 ?_; refine .hf c11 ?_; refine .x (OpSem.pickT rfl rfl c11 rfl) ?_; refine .sq <| .condT rfl rfl ?_; refine .u <| .u <| .block_other (by decide) ?_; exact .u <| .b <| .retM (F' := fo [oneO q (.c Tq [slc ba n cap, v1, v2]), oneO ba (.c 160 (arrV x.1 ++ tl)), enF x.1]) (ds' := []) (v := .tuple #[]) (.inr rfl) rfl (.nil) (fun H => rfl) (.cons rfl <| .cons rfl <| .cons rfl <| .nil) .nil rfl rfl (⟨x.1, rfl, rfl, rfl, hQ1, hS1⟩)
  ·refine .ht c11 ?_; refine .m ?_; refine .ht c11 ?_; refine .m ?_; refine .ht c11 ?_; refine .m ?_; refine .ht c11 ?_; refine .callV (hs := [1, 2]) (kd := 5000) (F := fo [oneO ba (.c 160 (arrV x.1 ++ tl)), enF x.1]) (openlist_order_uint32_Less_M (ba := ba) (cap := cap) (n := n) (tl := tl) (A := x.1) (i := x.2) (k := ((x.2 - 1).tdiv 2)) (by rw [← hS1.len]; exact hn) hQ1.nd k0 (by rw [hl1]; exact k1) hi0 (by rw [hl1]; omega)) (h := 0) (fun b off xs w => by kernel_rfl) vs157 rfl oneO_s rfl rfl rfl rfl (by decide) rfl rfl (fun H => rfl) rfl (by decide) (by decide) (.cons rfl <| .cons rfl <| .nil) .nil ?_ (by decide)
   rintro _ _ _ ⟨c15, rfl, rfl, rfl⟩
   refine .ht c11 ?_; refine .x .nt ?_; refine .x (OpSem.pickF rfl rfl c11 rfl) ?_; refine .sq <| .cond rfl (fun c17 => ?_) (fun c17 => ?_)
   ·refine .u <| .u <| .block_other (by decide) ?_; exact .u <| .b <| .retM (F' := fo [oneO q (.c Tq [slc ba n cap, v1, v2]), oneO ba (.c 160 (arrV x.1 ++ tl)), enF x.1]) (ds' := []) (v := .tuple #[]) (.inr rfl) rfl (.nil) (fun H => rfl) (.cons rfl <| .cons rfl <| .cons rfl <| .nil) .nil rfl rfl (⟨x.1, rfl, rfl, rfl, hQ1, hS1⟩)
   ·refine .p <| .z <| .mm ?_; refine .m ?_; refine .callV (hs := [1, 2]) (kd := 5000) (F := fo [oneO ba (.c 160 (arrV x.1 ++ tl)), enF x.1]) (openlist_order_uint32_Swap_M (ba := ba) (cap := cap) (n := n) (tl := tl) (A := x.1) (i := ((x.2 - 1).tdiv 2)) (k := x.2) (by rw [← hS1.len]; exact hn) hQ1.nd hi0 (by rw [hl1]; omega) k0 (by rw [hl1]; exact k1)) (h := 0) (fun b off xs w => by kernel_rfl) vs157 rfl oneO_s rfl rfl rfl rfl (by decide) rfl rfl (fun H => rfl) rfl (by decide) (by decide) (.cons rfl <| .cons rfl <| .nil) .nil ?_ (by decide)
    rintro _ _ _ ⟨rfl, rfl, rfl⟩
    refine .y <| .m ?_; refine .a ?_; refine .n <| .n <| .again (swE x.1 ((x.2 - 1).tdiv 2) x.2, ((x.2 - 1).tdiv 2)) ⟨(hQ1.sw hi0 (by rw [hl1]; omega) k0 (by rw [hl1]; exact k1)).1, hS1.trans (hQ1.sw hi0 (by rw [hl1]; omega) k0 (by rw [hl1]; exact k1)).2, hi0, by omega⟩ ?_ (by have : ((x.2 - 1).tdiv 2) ≠ x.2 := (by simpa using c11); show (((x.2 - 1).tdiv 2)).toNat < x.2.toNat; omega)
    exact .all
theorem container_heap_down_M {q Tq ba cap n : Nat} {v1 v2 : Value} {tl : List Value} {A : List QEnt} (hn : A.length = n) (hm : n ≤ 1000000) (hQ : QOk A) {i m : Int} (i0 : 0 ≤ i) (i1 : i ≤ n) (m0 : 0 ≤ m) (m1 : m ≤ n) : DoesM Tryz.prog 109 [.iface 165 (ptr q 0), .int .i64 (i), .int .i64 (m)] [] 3 (fo [oneO q (.c Tq [slc ba n cap, v1, v2]), oneO ba (.c 160 (arrV A ++ tl)), enF A]) (fun v F' ds' => ∃ A' c, v = .bool c ∧ F' = fo [oneO q (.c Tq [slc ba n cap, v1, v2]), oneO ba (.c 160 (arrV A' ++ tl)), enF A'] ∧ ds' = [] ∧ QOk A' ∧ SameE A A') := by
 refine DoesM.of_body Tryz.func109 rfl rfl (by simp) Tryz.call109 (.inr fun v F' ds' h => ⟨0, q, 0, by decide, by decide, by simp [fo, oneO], by obtain ⟨_, _, _, rfl, _⟩ := h; simp [fo, oneO]⟩) (fun Oc W => ?_); refine .g <| .r <| .a ?_; refine .z <| .m ?_; refine .a ?_; refine .sq <| .g <| .k <| .loop (X := List QEnt × Int) (fun x => QOk x.1 ∧ SameE A x.1 ∧ 0 ≤ x.2 ∧ x.2 ≤ n) (fun x => [(0, .d (.v (.iface 165 (ptr q 0)))), (1, I (i)), (2, I (m)), (7, I (x.2))]) (fun x => [(0, poM (oneO q (.c Tq [slc ba n cap, v1, v2]))), (1, poM (oneO ba (.c 160 (arrV x.1 ++ tl)))), (2, poM (enF x.1)), (999, .any (restK Oc W)), (1000, .fr (frK Oc W))]) (fun x => ((n : Int) - x.2).toNat) (A, i) ⟨hQ, .refl _, i0, i1⟩ ?_ ?_
 ·exact .all
 ·rintro x ⟨hQ1, hS1, k0, k1⟩
  have hl1 : (x.1.length : Int) = n := by rw [← hS1.len, hn]
  refine .k <| .g <| .r <| .m ?_; refine .x (OpSem.bin rfl rfl rfl (bmul (by omega) (by omega))) ?_; refine .x .ad ?_; refine .a ?_; refine .sq <| .g <| .g <| .r <| .mm ?_; refine .x (.b bgeq) ?_; refine .m ?_; refine .split (n := 18) rfl (fun c18 => ?_) (fun c18 => ?_)
  ·have h17 : m ≤ 2 * x.2 + 1 := by simpa using c18
   refine .hf c18 ?_; refine .hf c18 ?_; refine .x (OpSem.pickT rfl rfl c18 rfl) ?_; refine .sq <| .condT rfl rfl ?_; refine .u <| .u <| .block_other (by decide) ?_; refine .u <| .b <| .z <| .mm ?_; refine .x (.b bgtr) ?_; refine .a ?_; exact .sq <| .t <| .retM (F' := fo [oneO q (.c Tq [slc ba n cap, v1, v2]), oneO ba (.c 160 (arrV x.1 ++ tl)), enF x.1]) (ds' := []) (v := .bool _) (.inl rfl) rfl (.tmp rfl <| .nil) (fun H => rfl) (.cons rfl <| .cons rfl <| .cons rfl <| .nil) .nil rfl rfl (⟨x.1, _, rfl, rfl, rfl, hQ1, hS1⟩)
  ·have h17 : 2 * x.2 + 1 < m := by simpa using c18
   refine .ht c18 ?_; refine .m ?_; refine .ht c18 ?_; refine .x (.b blss) ?_; refine .x (OpSem.pickF rfl rfl c18 rfl) ?_; refine .sq <| .cond rfl (fun c21 => ?_) (fun c21 => ?_)
   ·refine .u <| .u <| .block_other (by decide) ?_; refine .u <| .b <| .z <| .mm ?_; refine .x (.b bgtr) ?_; refine .a ?_; exact .sq <| .t <| .retM (F' := fo [oneO q (.c Tq [slc ba n cap, v1, v2]), oneO ba (.c 160 (arrV x.1 ++ tl)), enF x.1]) (ds' := []) (v := .bool _) (.inl rfl) rfl (.tmp rfl <| .nil) (fun H => rfl) (.cons rfl <| .cons rfl <| .cons rfl <| .nil) .nil rfl rfl (⟨x.1, _, rfl, rfl, rfl, hQ1, hS1⟩)
   ·refine .p <| .z <| .m ?_; refine .a ?_; refine .sq <| .g <| .g <| .r <| .m ?_; refine .x .ad ?_; refine .a ?_; refine .z <| .mm ?_; refine .x (.b blss) ?_; refine .m ?_; refine .split (n := 28) rfl (fun c28 => ?_) (fun c28 => ?_)
    ·have h28 : 2 * x.2 + 1 + 1 < m := by simpa using c28
     refine .gt c28 ?_; refine .m ?_; refine .gt c28 ?_; refine .m ?_; refine .gt c28 ?_; refine .m ?_; refine .gt c28 ?_; refine .callV (hs := [1, 2]) (kd := 5000) (F := fo [oneO ba (.c 160 (arrV x.1 ++ tl)), enF x.1]) (openlist_order_uint32_Less_M (ba := ba) (cap := cap) (n := n) (tl := tl) (A := x.1) (i := (2 * x.2 + 1 + 1)) (k := (2 * x.2 + 1)) (by rw [← hS1.len]; exact hn) hQ1.nd (by omega) (by rw [hl1]; omega) (by omega) (by rw [hl1]; omega)) (h := 0) (fun b off xs w => by kernel_rfl) vs157 rfl oneO_s rfl rfl rfl rfl (by decide) rfl rfl (fun H => rfl) rfl (by decide) (by decide) (.cons rfl <| .cons rfl <| .nil) .nil ?_ (by decide)
     rintro _ _ _ ⟨c32, rfl, rfl, rfl⟩
     refine .x (OpSem.pickT rfl rfl c28 rfl) ?_; refine .sq <| .cond rfl (fun c33 => ?_) (fun c33 => ?_)
     ·refine .r <| .m ?_; refine .a ?_; refine .sq <| .g <| .g <| .r <| .mm ?_; refine .m ?_; refine .callV (hs := [1, 2]) (kd := 5000) (F := fo [oneO ba (.c 160 (arrV x.1 ++ tl)), enF x.1]) (openlist_order_uint32_Less_M (ba := ba) (cap := cap) (n := n) (tl := tl) (A := x.1) (i := 2 * x.2 + 1 + 1) (k := x.2) (by rw [← hS1.len]; exact hn) hQ1.nd (by omega) (by rw [hl1]; omega) (by omega) (by rw [hl1]; omega)) (h := 0) (fun b off xs w => by kernel_rfl) vs157 rfl oneO_s rfl rfl rfl rfl (by decide) rfl rfl (fun H => rfl) rfl (by decide) (by decide) (.cons rfl <| .cons rfl <| .nil) .nil ?_ (by decide)
      rintro _ _ _ ⟨c38, rfl, rfl, rfl⟩
      refine .x .nt ?_; refine .sq <| .cond rfl (fun c39 => ?_) (fun c39 => ?_)
      ·refine .u <| .u <| .block_other (by decide) ?_; refine .u <| .b <| .z <| .mm ?_; refine .x (.b bgtr) ?_; refine .a ?_; exact .sq <| .t <| .retM (F' := fo [oneO q (.c Tq [slc ba n cap, v1, v2]), oneO ba (.c 160 (arrV x.1 ++ tl)), enF x.1]) (ds' := []) (v := .bool _) (.inl rfl) rfl (.tmp rfl <| .nil) (fun H => rfl) (.cons rfl <| .cons rfl <| .cons rfl <| .nil) .nil rfl rfl (⟨x.1, _, rfl, rfl, rfl, hQ1, hS1⟩)
      ·refine .p <| .z <| .mm ?_; refine .m ?_; refine .callV (hs := [1, 2]) (kd := 5000) (F := fo [oneO ba (.c 160 (arrV x.1 ++ tl)), enF x.1]) (openlist_order_uint32_Swap_M (ba := ba) (cap := cap) (n := n) (tl := tl) (A := x.1) (i := x.2) (k := 2 * x.2 + 1 + 1) (by rw [← hS1.len]; exact hn) hQ1.nd (by omega) (by rw [hl1]; omega) (by omega) (by rw [hl1]; omega)) (h := 0) (fun b off xs w => by kernel_rfl) vs157 rfl oneO_s rfl rfl rfl rfl (by decide) rfl rfl (fun H => rfl) rfl (by decide) (by decide) (.cons rfl <| .cons rfl <| .nil) .nil ?_ (by decide)
       rintro _ _ _ ⟨rfl, rfl, rfl⟩
       refine .y <| .m ?_; refine .a ?_; refine .n <| .n <| .again (swE x.1 x.2 (2 * x.2 + 1 + 1), 2 * x.2 + 1 + 1) ⟨(hQ1.sw k0 (by rw [hl1]; omega) (by omega) (by rw [hl1]; omega)).1, hS1.trans (hQ1.sw k0 (by rw [hl1]; omega) (by omega) (by rw [hl1]; omega)).2, by omega, by omega⟩ ?_ (by show ((n : Int) - (2 * x.2 + 1 + 1)).toNat < ((n : Int) - x.2).toNat; omega)
       exact .all
     ·refine .p <| .g <| .g <| .g <| .r <| .mm ?_; refine .m ?_; refine .callV (hs := [1, 2]) (kd := 5000) (F := fo [oneO ba (.c 160 (arrV x.1 ++ tl)), enF x.1]) (openlist_order_uint32_Less_M (ba := ba) (cap := cap) (n := n) (tl := tl) (A := x.1) (i := 2 * x.2 + 1) (k := x.2) (by rw [← hS1.len]; exact hn) hQ1.nd (by omega) (by rw [hl1]; omega) (by omega) (by rw [hl1]; omega)) (h := 0) (fun b off xs w => by kernel_rfl) vs157 rfl oneO_s rfl rfl rfl rfl (by decide) rfl rfl (fun H => rfl) rfl (by decide) (by decide) (.cons rfl <| .cons rfl <| .nil) .nil ?_ (by decide)
      rintro _ _ _ ⟨c38, rfl, rfl, rfl⟩
      refine .x .nt ?_; refine .sq <| .cond rfl (fun c39 => ?_) (fun c39 => ?_)
      ·refine .u <| .u <| .block_other (by decide) ?_; refine .u <| .b <| .z <| .mm ?_; refine .x (.b bgtr) ?_; refine .a ?_; exact .sq <| .t <| .retM (F' := fo [oneO q (.c Tq [slc ba n cap, v1, v2]), oneO ba (.c 160 (arrV x.1 ++ tl)), enF x.1]) (ds' := []) (v := .bool _) (.inl rfl) rfl (.tmp rfl <| .nil) (fun H => rfl) (.cons rfl <| .cons rfl <| .cons rfl <| .nil) .nil rfl rfl (⟨x.1, _, rfl, rfl, rfl, hQ1, hS1⟩)
      ·refine .p <| .z <| .mm ?_; refine .m ?_; refine .callV (hs := [1, 2]) (kd := 5000) (F := fo [oneO ba (.c 160 (arrV x.1 ++ tl)), enF x.1]) (openlist_order_uint32_Swap_M (ba := ba) (cap := cap) (n := n) (tl := tl) (A := x.1) (i := x.2) (k := 2 * x.2 + 1) (by rw [← hS1.len]; exact hn) hQ1.nd (by omega) (by rw [hl1]; omega) (by omega) (by rw [hl1]; omega)) (h := 0) (fun b off xs w => by kernel_rfl) vs157 rfl oneO_s rfl rfl rfl rfl (by decide) rfl rfl (fun H => rfl) rfl (by decide) (by decide) (.cons rfl <| .cons rfl <| .nil) .nil ?_ (by decide)
       rintro _ _ _ ⟨rfl, rfl, rfl⟩
       refine .y <| .m ?_; refine .a ?_; refine .n <| .n <| .again (swE x.1 x.2 (2 * x.2 + 1), 2 * x.2 + 1) ⟨(hQ1.sw k0 (by rw [hl1]; omega) (by omega) (by rw [hl1]; omega)).1, hS1.trans (hQ1.sw k0 (by rw [hl1]; omega) (by omega) (by rw [hl1]; omega)).2, by omega, by omega⟩ ?_ (by show ((n : Int) - (2 * x.2 + 1)).toNat < ((n : Int) - x.2).toNat; omega)
       exact .all
    ·have h28 : m ≤ 2 * x.2 + 1 + 1 := by simpa using c28
     refine .gf c28 ?_; refine .gf c28 ?_; refine .gf c28 ?_; refine .gf c28 ?_; refine .x (OpSem.pickF rfl rfl c28 rfl) ?_; refine .sq <| .condF rfl rfl ?_; refine .p <| .g <| .g <| .g <| .r <| .mm ?_; refine .m ?_; refine .callV (hs := [1, 2]) (kd := 5000) (F := fo [oneO ba (.c 160 (arrV x.1 ++ tl)), enF x.1]) (openlist_order_uint32_Less_M (ba := ba) (cap := cap) (n := n) (tl := tl) (A := x.1) (i := 2 * x.2 + 1) (k := x.2) (by rw [← hS1.len]; exact hn) hQ1.nd (by omega) (by rw [hl1]; omega) (by omega) (by rw [hl1]; omega)) (h := 0) (fun b off xs w => by kernel_rfl) vs157 rfl oneO_s rfl rfl rfl rfl (by decide) rfl rfl (fun H => rfl) rfl (by decide) (by decide) (.cons rfl <| .cons rfl <| .nil) .nil ?_ (by decide)
     rintro _ _ _ ⟨c38, rfl, rfl, rfl⟩
     refine .x .nt ?_; refine .sq <| .cond rfl (fun c39 => ?_) (fun c39 => ?_)
     ·refine .u <| .u <| .block_other (by decide) ?_; refine .u <| .b <| .z <| .mm ?_; refine .x (.b bgtr) ?_; refine .a ?_; exact .sq <| .t <| .retM (F' := fo [oneO q (.c Tq [slc ba n cap, v1, v2]), oneO ba (.c 160 (arrV x.1 ++ tl)), enF x.1]) (ds' := []) (v := .bool _) (.inl rfl) rfl (.tmp rfl <| .nil) (fun H => rfl) (.cons rfl <| .cons rfl <| .cons rfl <| .nil) .nil rfl rfl (⟨x.1, _, rfl, rfl, rfl, hQ1, hS1⟩)
     ·refine .p <| .z <| .mm ?_; refine .m ?_; refine .callV (hs := [1, 2]) (kd := 5000) (F := fo [oneO ba (.c 160 (arrV x.1 ++ tl)), enF x.1]) (openlist_order_uint32_Swap_M (ba := ba) (cap := cap) (n := n) (tl := tl) (A := x.1) (i := x.2) (k := 2 * x.2 + 1) (by rw [← hS1.len]; exact hn) hQ1.nd (by omega) (by rw [hl1]; omega) (by omega) (by rw [hl1]; omega)) (h := 0) (fun b off xs w => by kernel_rfl) vs157 rfl oneO_s rfl rfl rfl rfl (by decide) rfl rfl (fun H => rfl) rfl (by decide) (by decide) (.cons rfl <| .cons rfl <| .nil) .nil ?_ (by decide)
      rintro _ _ _ ⟨rfl, rfl, rfl⟩
      refine .y <| .m ?_; refine .a ?_; refine .n <| .n <| .again (swE x.1 x.2 (2 * x.2 + 1), 2 * x.2 + 1) ⟨(hQ1.sw k0 (by rw [hl1]; omega) (by omega) (by rw [hl1]; omega)).1, hS1.trans (hQ1.sw k0 (by rw [hl1]; omega) (by omega) (by rw [hl1]; omega)).2, by omega, by omega⟩ ?_ (by show ((n : Int) - (2 * x.2 + 1)).toNat < ((n : Int) - x.2).toNat; omega)
      exact .all
theorem container_heap_Fix_M {q Tq ba cap n : Nat} {v1 v2 : Value} {tl : List Value} {A : List QEnt} (hn : A.length = n) (hm : n ≤ 1000000) (hQ : QOk A) {i : Int} (i0 : 0 ≤ i) (i1 : i < n) : DoesM Tryz.prog 79 [.iface 165 (ptr q 0), .int .i64 (i)] [] 3 (fo [oneO q (.c Tq [slc ba n cap, v1, v2]), oneO ba (.c 160 (arrV A ++ tl)), enF A]) (fun v F' ds' => ∃ A', v = .tuple #[] ∧ F' = fo [oneO q (.c Tq [slc ba n cap, v1, v2]), oneO ba (.c 160 (arrV A' ++ tl)), enF A'] ∧ ds' = [] ∧ QOk A' ∧ SameE A A') := by
 refine DoesM.of_body Tryz.func79 rfl rfl (by simp) Tryz.call79 (.inr fun v F' ds' h => ⟨0, q, 0, by decide, by decide, by simp [fo, oneO], by obtain ⟨_, _, rfl, _⟩ := h; simp [fo, oneO]⟩) (fun Oc W => ?_); refine .g <| .r <| .mm ?_; refine .m ?_; refine .callV (hs := []) (kd := 5000) (F := fo []) (openlist_order_uint32_Len_M (p := (some (ba, cap, []))) (n := n) (fun h => by cases h)) (h := 0) (fun b off xs w => by kernel_rfl) vs157 rfl oneO_s rfl rfl rfl rfl (by decide) rfl rfl (fun H => rfl) rfl (by decide) (by decide) (.nil) .nil ?_ (by decide)
 rintro _ _ _ ⟨rfl, rfl, rfl⟩
 refine .callM (hs := [0, 1, 2]) (kd := 5008) (F := fo [oneO q (.c Tq [slc ba n cap, v1, v2]), oneO ba (.c 160 (arrV A ++ tl)), enF A]) (container_heap_down_M (q := q) (Tq := Tq) (ba := ba) (cap := cap) (n := n) (v1 := v1) (v2 := v2) (tl := tl) hn hm hQ (i := i) (m := (n : Nat)) i0 (by omega) (by omega) (by omega)) rfl rfl rfl (by decide) rfl rfl (fun H => rfl) rfl (by decide) (by decide) (.cons rfl <| .cons rfl <| .cons rfl <| .nil) .nil ?_ (by decide)
 rintro _ _ _ ⟨A1, c8, rfl, rfl, rfl, hQ1, hS1⟩
 refine .x .nt ?_; refine .sq <| .cond rfl (fun c9 => ?_) (fun c9 => ?_)
 ·refine .r <| .mm ?_; refine .callM (hs := [0, 1, 2]) (kd := 5012) (F := fo [oneO q (.c Tq [slc ba n cap, v1, v2]), oneO ba (.c 160 (arrV A1 ++ tl)), enF A1]) (container_heap_up_M (q := q) (Tq := Tq) (ba := ba) (cap := cap) (n := n) (v1 := v1) (v2 := v2) (tl := tl) (by rw [← hS1.len]; exact hn) hm hQ1 (j := i) i0 i1) rfl rfl rfl (by decide) rfl rfl (fun H => rfl) rfl (by decide) (by decide) (.cons rfl <| .cons rfl <| .cons rfl <| .nil) .nil ?_ (by decide)
  rintro _ _ _ ⟨A2, rfl, rfl, rfl, hQ2, hS2⟩
  exact .n <| .retM (F' := fo [oneO q (.c Tq [slc ba n cap, v1, v2]), oneO ba (.c 160 (arrV A2 ++ tl)), enF A2]) (ds' := []) (v := .tuple #[]) (.inr rfl) rfl (.nil) (fun H => rfl) (.cons rfl <| .cons rfl <| .cons rfl <| .nil) .nil rfl rfl (⟨A2, rfl, rfl, rfl, hQ2, hS1.trans hS2⟩)
 ·exact .p <| .retM (F' := fo [oneO q (.c Tq [slc ba n cap, v1, v2]), oneO ba (.c 160 (arrV A1 ++ tl)), enF A1]) (ds' := []) (v := .tuple #[]) (.inr rfl) rfl (.nil) (fun H => rfl) (.cons rfl <| .cons rfl <| .cons rfl <| .nil) .nil rfl rfl (⟨A1, rfl, rfl, rfl, hQ1, hS1⟩)
theorem container_heap_Push_M {q Tq n : Nat} {v1 v2 : Value} {p : Pl} {A : List QEnt} {e : QEnt} (hn : A.length = n) (hN : NdE (A ++ [e])) (hQ : QOk A) (hp : PlOk p 1 n (arrV A)) (hm : n + 1 ≤ 1000000) : DoesM Tryz.prog 80 [.iface 165 (ptr q 0), .iface 160 (ptr e.blk 0)] [] 3 (fo [oneO q (.c Tq [plV p n, v1, v2]), plMe 160 p (arrV A), enF (A ++ [e])]) (fun v F' ds' => ∃ b cap tl A', v = .tuple #[] ∧ PlOk (some (b, cap, tl)) 1 (n + 1) (arrV A') ∧ F' = fo [oneO q (.c Tq [slc b (n + 1) cap, v1, v2]), oneO b (.c 160 (arrV A' ++ tl)), enF A'] ∧ ds' = [] ∧ QOk A' ∧ SameE (A ++ [e]) A') := by
 refine DoesM.of_body Tryz.func80 rfl rfl (by simp) Tryz.call80 (.inr fun v F' ds' h => ⟨0, q, 0, by decide, by decide, by simp [fo, oneO], by obtain ⟨_, _, _, _, _, _, rfl, _⟩ := h; simp [fo, oneO]⟩) (fun Oc W => ?_); refine .g <| .r <| .mm ?_; refine .callI (hs := [0, 1, 2]) (kd := 5006) (F := fo [oneO q (.c Tq [plV p n, v1, v2]), plMe 160 p (arrV A), enF (A ++ [e])]) (openlist_order_uint32_Push_M (q := q) (Tq := Tq) (n := n) (v1 := v1) (v2 := v2) (p := p) (A := A) (e := e) hn hN hp (by omega)) (fun v xs w => by kernel_rfl) rfl rfl rfl (by decide) rfl rfl (fun H => rfl) rfl (by decide) (by decide) (.cons rfl <| .cons rfl <| .cons rfl <| .nil) .nil ?_ (by decide)
 rintro _ _ _ ⟨b, cap, tl, rfl, hp2, rfl, rfl⟩
 obtain ⟨hQ1, hS1⟩ := hQ.push hN hn
 refine .poEq 1 rfl (show oneO b (.c 160 (arrV (A ++ [e]) ++ tl)) = oneO b (.c 160 (arrV (A ++ [e.mv (n : Nat)]) ++ tl)) from by rw [← arrV_app, ← arrV_app]; rfl) ?_; refine .y <| .mm ?_; refine .callV (hs := []) (kd := 5000) (F := fo []) (openlist_order_uint32_Len_M (p := (some (b, cap, []))) (n := (n + 1)) (fun h => by cases h)) (h := 0) (fun b off xs w => by kernel_rfl) vs157 rfl oneO_s rfl rfl rfl rfl (by decide) rfl rfl (fun H => rfl) rfl (by decide) (by decide) (.nil) .nil ?_ (by decide)
 rintro _ _ _ ⟨rfl, rfl, rfl⟩
 refine .x .su ?_; refine .callM (hs := [0, 1, 2]) (kd := 5011) (F := fo [oneO q (.c Tq [slc b (n + 1) cap, v1, v2]), oneO b (.c 160 (arrV (A ++ [e.mv n]) ++ tl)), enF (A ++ [e.mv n])]) (container_heap_up_M (q := q) (Tq := Tq) (ba := b) (cap := cap) (n := (n + 1)) (v1 := v1) (v2 := v2) (tl := tl) (A := A ++ [e.mv n]) (by simp; omega) (by omega) hQ1 (j := ((n + 1 : Nat) : Int) - 1) (by omega) (by omega)) rfl rfl rfl (by decide) rfl rfl (fun H => rfl) rfl (by decide) (by decide) (.cons rfl <| .cons rfl <| .cons rfl <| .nil) .nil ?_ (by decide)
 rintro _ _ _ ⟨A2, rfl, rfl, rfl, hQ2, hS2⟩
 exact .n <| .retM (F' := fo [oneO q (.c Tq [slc b (n + 1) cap, v1, v2]), oneO b (.c 160 (arrV A2 ++ tl)), enF A2]) (ds' := []) (v := .tuple #[]) (.inr rfl) rfl (.nil) (fun H => rfl) (.cons rfl <| .cons rfl <| .cons rfl <| .nil) .nil rfl rfl (⟨b, cap, tl, A2, rfl, hp2.same (by rw [arrV_len, arrV_len]; exact (hS1.trans hS2).len), rfl, rfl, hQ2, hS1.trans hS2⟩)
theorem container_heap_Pop_M {q Tq ba cap n : Nat} {v1 v2 : Value} {tl : List Value} {A : List QEnt} (hn : A.length = n + 1) (hm : n + 1 ≤ 1000000) (hc : n + 1 ≤ cap) (hQ : QOk A) : DoesM Tryz.prog 82 [.iface 165 (ptr q 0)] [] 3 (fo [oneO q (.c Tq [slc ba (n + 1) cap, v1, v2]), oneO ba (.c 160 (arrV A ++ tl)), enF A]) (fun v F' ds' => ∃ A' x, v = .iface 160 (ptr x.blk 0) ∧ F' = fo [oneO q (.c Tq [slc ba n cap, v1, v2]), oneO ba (.c 160 (arrV (A' ++ [x]) ++ tl)), enF (A' ++ [x])] ∧ ds' = [] ∧ QOk (A' ++ [x]) ∧ SameE A (A' ++ [x]) ∧ A'.length = n) := by
 have hl1 : (A.length : Int) = (n + 1 : Nat) := by rw [hn]
 obtain ⟨hQ1, hS1⟩ := hQ.sw (i := 0) (k := ((n + 1 : Nat) : Int) - 1) (by omega) (by omega) (by omega) (by omega)
 refine DoesM.of_body Tryz.func82 rfl rfl (by simp) Tryz.call82 (.inr fun v F' ds' h => ⟨0, q, 0, by decide, by decide, by simp [fo, oneO], by obtain ⟨_, _, _, rfl, _⟩ := h; simp [fo, oneO]⟩) (fun Oc W => ?_); refine .g <| .r <| .a ?_; refine .z <| .m ?_; refine .callV (hs := []) (kd := 5000) (F := fo []) (openlist_order_uint32_Len_M (p := (some (ba, cap, []))) (n := (n + 1)) (fun h => by cases h)) (h := 0) (fun b off xs w => by kernel_rfl) vs157 rfl oneO_s rfl rfl rfl rfl (by decide) rfl rfl (fun H => rfl) rfl (by decide) (by decide) (.nil) .nil ?_ (by decide)
 rintro _ _ _ ⟨rfl, rfl, rfl⟩
 refine .x .su ?_; refine .a ?_; refine .z <| .mm ?_; refine .callV (hs := [1, 2]) (kd := 5000) (F := fo [oneO ba (.c 160 (arrV A ++ tl)), enF A]) (openlist_order_uint32_Swap_M (ba := ba) (cap := cap) (n := n + 1) (tl := tl) (A := A) (i := 0) (k := ((n + 1 : Nat) : Int) - 1) hn hQ.nd (by omega) (by omega) (by omega) (by omega)) (h := 0) (fun b off xs w => by kernel_rfl) vs157 rfl oneO_s rfl rfl rfl rfl (by decide) rfl rfl (fun H => rfl) rfl (by decide) (by decide) (.cons rfl <| .cons rfl <| .nil) .nil ?_ (by decide)
 rintro _ _ _ ⟨rfl, rfl, rfl⟩
 refine .z <| .mm ?_; refine .callM (hs := [0, 1, 2]) (kd := 5012) (F := fo [oneO q (.c Tq [slc ba (n + 1) cap, v1, v2]), oneO ba (.c 160 (arrV (swE A 0 (((n + 1 : Nat) : Int) - 1)) ++ tl)), enF (swE A 0 (((n + 1 : Nat) : Int) - 1))]) (container_heap_down_M (q := q) (Tq := Tq) (ba := ba) (cap := cap) (n := (n + 1)) (v1 := v1) (v2 := v2) (tl := tl) (A := swE A 0 (((n + 1 : Nat) : Int) - 1)) (by rw [swE_len]; exact hn) (by omega) hQ1 (i := 0) (m := ((n + 1 : Nat) : Int) - 1) (by omega) (by omega) (by omega) (by omega)) rfl rfl rfl (by decide) rfl rfl (fun H => rfl) rfl (by decide) (by decide) (.cons rfl <| .cons rfl <| .cons rfl <| .nil) .nil ?_ (by decide)
 rintro _ _ _ ⟨A2, c12, rfl, rfl, rfl, hQ2, hS2⟩
 obtain ⟨A3, x, rfl, hn3⟩ := snoc (A := A2) (n := n) (by rw [← hS2.len, swE_len]; exact hn)
 refine .z <| .m ?_; refine .callI (hs := [0, 1]) (kd := 5014) (F := fo [oneO q (.c Tq [slc ba (n + 1) cap, v1, v2]), oneO ba (.c 160 (arrV (A3 ++ [x]) ++ tl))]) (openlist_order_uint32_Pop_M (q := q) (Tq := Tq) (ba := ba) (cap := cap) (n := n) (v1 := v1) (v2 := v2) (tl := tl) (A := A3) (x := x) hn3 (by omega) hc) (fun v xs w => by kernel_rfl) rfl rfl rfl (by decide) rfl rfl (fun H => rfl) rfl (by decide) (by decide) (.cons rfl <| .cons rfl <| .nil) .nil ?_ (by decide)
 rintro _ _ _ ⟨rfl, rfl, rfl⟩
 refine .a ?_; exact .sq <| .t <| .retM (F' := fo [oneO q (.c Tq [slc ba n cap, v1, v2]), oneO ba (.c 160 (arrV (A3 ++ [x]) ++ tl)), enF (A3 ++ [x])]) (ds' := []) (v := .iface 160 (ptr x.blk 0)) (.inl rfl) rfl (.tmp rfl <| .nil) (fun H => rfl) (.cons rfl <| .cons rfl <| .cons rfl <| .nil) .nil rfl rfl (⟨A3, x, rfl, rfl, rfl, hQ2, hS1.trans hS2, hn3⟩)
end Go.Proofs.YtgophedpkiidkaaGreat
end

section
namespace Go.Proofs.YtgophedpkiidkaaGreat
open Go.Eng
set_option maxRecDepth 10000
set_option maxHeartbeats 4000000
theorem openlist_New_uint32_M  : DoesM Tryz.prog 51 [] [] 4 (fo []) (fun v F' ds' => ∃ q Tq bm, v = ptr q 0 ∧ F' = qF q Tq bm 0 none [] [] ∧ ds' = []) := by
 refine DoesM.of_body Tryz.func51 rfl rfl (by simp) Tryz.call51 (.inl fun i h => by simp [fo]) (fun Oc W => ?_); refine .g <| .r <| .a ?_; refine .z <| .makeMapO 61 rfl rfl rfl (by decide) (fun bm => ?_); refine .x (.bd pl159 zc159) ?_; refine .bx 3 ?_; refine .pinB 3 3 (vs := [.slice none 0 0, .map (some bm), .int .i64 (0)]) rfl rfl rfl (fun q Tq => ?_); refine .joinO 0 3 rfl rfl (by decide) (fun _ => ?_); refine .addNo 3 ?_; refine .joinO 3 61 rfl rfl (by decide) (fun _ => ?_); refine .a ?_; exact .sq <| .t <| .retM (F' := qF q Tq bm 0 none [] []) (ds' := []) (v := ptr q 0) (.inl rfl) rfl (.tmp rfl <| .nil) (fun H => rfl) (.cons rfl <| .cons rfl <| .cons rfl <| .cons rfl <| .nil) .nil rfl rfl (⟨q, Tq, bm, rfl, rfl, rfl⟩)
theorem openlist_Queue_uint32_Len_M {q Tq bm : Nat} {tm : Int} {p : Pl} {A : List QEnt} {m : List (Int × Value)} (hp : p = none → A.length = 0) : DoesM Tryz.prog 55 [ptr q 0] [] 4 (qF q Tq bm (tm) p A m) (fun v F' ds' => v = .int .i64 (A.length : Nat) ∧ F' = qF q Tq bm (tm) p A m ∧ ds' = []) := by
 refine DoesM.of_body Tryz.func55 rfl rfl (by simp) Tryz.call55 (.inr fun v F' ds' h => ⟨0, q, 0, by decide, by decide, by simp [fo, oneO], by obtain ⟨_, rfl, _⟩ := h; simp [fo, oneO]⟩) (fun Oc W => ?_); refine .g <| .r <| .a ?_; refine .z <| .m ?_; refine .x (OpSem.nilv rfl rfl) ?_; refine .x (OpSem.fieldv rfl rfl fo159_0) ?_; refine .x (OpSem.loadO (h := 0) rfl rfl rfl vs157 oneO_s rfl) ?_; refine .x (OpSem.lenPl rfl rfl es157 hp) ?_; refine .a ?_; exact .sq <| .t <| .retM (F' := qF q Tq bm (tm) p A m) (ds' := []) (v := .int .i64 (A.length : Nat)) (.inl rfl) rfl (.tmp rfl <| .nil) (fun H => rfl) (.cons rfl <| .cons rfl <| .cons rfl <| .cons rfl <| .nil) .nil rfl rfl (⟨rfl, rfl, rfl⟩)
theorem openlist_Queue_uint32_Set_M {q Tq bm : Nat} {tm : Int} {p : Pl} {A : List QEnt} {m : List (Int × Value)} {item : Nat} {key : Int} (h : QInv p A m) (hm : A.length + 1 ≤ 1000000) : DoesM Tryz.prog 53 [ptr q 0, .int .u32 ((item : Nat)), .int .i64 (key)] [] 4 (qF q Tq bm (tm) p A m) (fun v F' ds' => ∃ p' A' m', v = .tuple #[] ∧ F' = qF q Tq bm (IntKind.i64.wrap (tm + 1)) p' A' m' ∧ ds' = [] ∧ QInv p' A' m' ∧ QUpd A item key A') := by
 refine DoesM.of_body Tryz.func53 rfl rfl (by simp) Tryz.call53 (.inr fun v F' ds' h => ⟨0, q, 0, by decide, by decide, by simp [fo, oneO], by obtain ⟨_, _, _, _, rfl, _⟩ := h; simp [fo, oneO]⟩) (fun Oc W => ?_); refine .g <| .r <| .m ?_; refine .x (OpSem.nilv rfl rfl) ?_; refine .x (OpSem.fieldv rfl rfl fo159_2) ?_; refine .x (OpSem.loadO (h := 0) rfl rfl rfl vs3 oneO_s rfl) ?_; refine .x (.b baddW) ?_; refine .x (OpSem.nilv rfl rfl) ?_; refine .x (OpSem.fieldv rfl rfl fo159_2) ?_; refine .ofSt0' (OpSt.storeO (h := 0) (F' := oneO q (.c Tq [plV p A.length, .map (some bm), .int .i64 (IntKind.i64.wrap (tm + 1))])) rfl rfl rfl vs3 oneO_s (by simp) rfl updO_one) rfl rfl rfl ?_; refine .sq <| .g <| .g <| .r <| .m ?_; refine .x (OpSem.nilv rfl rfl) ?_; refine .x (OpSem.fieldv rfl rfl fo159_1) ?_; refine .x (OpSem.loadO (h := 0) rfl rfl rfl vs155 oneO_s rfl) ?_; refine .m ?_; refine .x (OpSem.lookO2 (h := 3) (l := m) (n := (item : Nat)) (v := ((lookI m (item : Nat)).getD (.pointer none))) (f := (lookI m (item : Nat)).isSome) rfl rfl rfl rfl oneO_s mt155 iu72 zw160 rfl rfl) ?_; refine .m ?_; refine .x .xt ?_; refine .x .xt ?_; refine .a ?_; refine .a ?_; refine .z <| .m ?_; refine .sq <| .cond rfl (fun c25 => ?_) (fun c25 => ?_)
 ·obtain ⟨v6, hv6⟩ := Option.isSome_iff_exists.1 c25
  obtain ⟨x6, hx6, hi6, hb6⟩ := h.m.o _ _ hv6
  obtain ⟨j, j0, j1, rfl⟩ := mem_nthZ hx6
  have hit : (nth A j).item = item := by omega
  obtain ⟨ba, cap, tl, rfl⟩ := h.p.some (by omega)
  have hN := h.q.nd
  have hpj : (nth A j).pos = j := by have := h.q.pos j.toNat (by omega); rwa [Int.toNat_of_nonneg j0] at this
  refine .eqV 6 rfl (show (lookI m (item : Nat)).getD (.pointer none) = ptr (nth A j).blk 0 by rw [hv6, hb6]; rfl) ?_; refine .g <| .r <| .mm ?_; refine .mm ?_; refine .x (OpSem.nilv rfl rfl) ?_; refine .x (OpSem.fieldv rfl rfl fo159_2) ?_; refine .x (OpSem.loadO (h := 0) rfl rfl rfl vs3 oneO_s rfl) ?_; refine .x (OpSem.nilv rfl rfl) ?_; refine .x (OpSem.fieldv rfl rfl fo163_1) ?_; refine .ofSt0' (OpSt.storeO (h := 2) (F' := enF (A.set j.toNat ((nth A j).ky key))) rfl rfl rfl vs3 (ent_at hN j0 j1) (by simp [entC]) rfl (ent_set (y := ((nth A j).ky key)) hN j0 j1 rfl)) rfl rfl rfl ?_; refine .x (OpSem.nilv rfl rfl) ?_; refine .x (OpSem.fieldv rfl rfl fo163_2) ?_; refine .ofSt0' (OpSt.storeO (h := 2) (F' := enF (A.set j.toNat ((nth A j).tk key (IntKind.i64.wrap (tm + 1))))) rfl rfl rfl vs3 (ent_at1 hN j0 j1) (by simp [entC]) rfl (ent_set2 (key := key) (t := IntKind.i64.wrap (tm + 1)) hN j0 j1)) rfl rfl rfl ?_; refine .poEq 1 rfl (show oneO ba (.c 160 (arrV A ++ tl)) = oneO ba (.c 160 (arrV (A.set j.toNat ((nth A j).tk key (IntKind.i64.wrap (tm + 1)))) ++ tl)) from by rw [arrV_set j0 j1]) ?_; refine .sq <| .g <| PC.start [] ?_; refine .m ?_; refine .x (OpSem.nilv rfl rfl) ?_; refine .x (OpSem.fieldv rfl rfl fo159_0) ?_; refine .x (OpSem.mkI rfl rfl (by kernel_rfl)) ?_; refine .m ?_; refine .x (OpSem.nilv rfl rfl) ?_; refine .x (OpSem.fieldv rfl rfl fo163_3) ?_; refine .x (OpSem.loadO (h := 2) rfl rfl rfl vs3 (ent_at2 hN j0 j1) rfl) ?_; refine .d0 mixed ?_; refine .callM (hs := [0, 1, 2]) (kd := 5045) (F := fo [oneO q (.c Tq [slc ba A.length cap, .map (some bm), .int .i64 (IntKind.i64.wrap (tm + 1))]), oneO ba (.c 160 (arrV (A.set j.toNat ((nth A j).tk key (IntKind.i64.wrap (tm + 1)))) ++ tl)), enF (A.set j.toNat ((nth A j).tk key (IntKind.i64.wrap (tm + 1))))]) (container_heap_Fix_M (q := q) (Tq := Tq) (v1 := .map (some bm)) (v2 := .int .i64 (IntKind.i64.wrap (tm + 1))) (ba := ba) (cap := cap) (n := A.length) (tl := tl) (A := A.set j.toNat ((nth A j).tk key (IntKind.i64.wrap (tm + 1)))) (by simp) (by omega) (QOk.tk hN j0 j1 h.q.pos) (i := (nth A j).pos) (by omega) (by omega)) rfl rfl rfl (by decide) rfl rfl (fun H => rfl) rfl (by decide) (by decide) (.cons rfl <| .cons rfl <| .cons rfl <| .nil) .nil ?_ (by decide)
  rintro _ _ _ ⟨A2, rfl, rfl, rfl, hQ2, hS2⟩
  obtain ⟨hI2, hU2⟩ := set_inv h j0 j1 hS2 hQ2
  rw [hit] at hU2
  have hl2 : A2.length = A.length := by rw [← hS2.len]; simp
  exact .sq <| .t <| .t <| .retM (F' := fo [oneO q (.c Tq [slc ba A.length cap, .map (some bm), .int .i64 (IntKind.i64.wrap (tm + 1))]), oneO ba (.c 160 (arrV A2 ++ tl)), enF A2, oneO bm (.m m)]) (ds' := []) (v := .tuple #[]) (.inl rfl) rfl (.nil) (fun H => rfl) (.cons rfl <| .cons rfl <| .cons rfl <| .cons rfl <| .nil) .nil rfl rfl (⟨some (ba, cap, tl), A2, m, rfl, by rw [← hl2]; rfl, rfl, hI2, hU2⟩)
 ·have hno : lookI m (item : Nat) = none := by cases hl : lookI m (item : Nat) with | none => rfl | some v => rw [hl] at c25; cases c25
  refine .p <| .z <| .mm ?_; refine .m ?_; refine .x (OpSem.nilv rfl rfl) ?_; refine .x (OpSem.fieldv rfl rfl fo159_2) ?_; refine .x (OpSem.loadO (h := 0) rfl rfl rfl vs3 oneO_s rfl) ?_; refine .x (.bd pl163 zc163) ?_; refine .bx 53 ?_; refine .pinB 53 53 (vs := [.int .u32 ((item : Nat)), .int .i64 (key), .int .i64 (IntKind.i64.wrap (tm + 1)), .int .i64 (0)]) rfl rfl rfl (fun be Te => ?_); refine .a ?_; refine .z <| .m ?_; refine .x (OpSem.nilv rfl rfl) ?_; refine .x (OpSem.fieldv rfl rfl fo159_1) ?_; refine .x (OpSem.loadO (h := 0) rfl rfl rfl vs155 oneO_s rfl) ?_; refine .mm ?_; refine .ofSt0' (OpSt.putO (h := 3) (l := m) (n := (item : Nat)) (v := ptr be 0) (F' := oneO bm (.m (putI m (item : Nat) (ptr be 0)))) (.inl rfl) rfl rfl rfl (fun H => rfl) oneO_s mt155 iu72 updO_one) rfl rfl rfl ?_; refine .y <| .m ?_; refine .x (OpSem.nilv rfl rfl) ?_; refine .x (OpSem.fieldv rfl rfl fo159_0) ?_; refine .x (OpSem.mkI rfl rfl (by kernel_rfl)) ?_; refine .m ?_; refine .x (OpSem.mkI rfl rfl (by kernel_rfl)) ?_; refine .joinO 2 53 rfl rfl (by decide) (fun hap => ?_)
  have hN2 : NdE (A ++ [(⟨be, item, key, IntKind.i64.wrap (tm + 1), 0, Te⟩ : QEnt)]) := nd_app h.q.nd fun x hx e => by (have := hap x.blk (show enF A x.blk ≠ none by rw [ent_mem h.q.nd hx]; simp)); rw [e] at this; simp [oneO] at this
  refine .poEq 2 rfl (ent_or hN2) ?_; refine .callM (hs := [0, 1, 2]) (kd := 5066) (F := fo [oneO q (.c Tq [plV p A.length, .map (some bm), .int .i64 (IntKind.i64.wrap (tm + 1))]), plMe 160 p (arrV A), enF (A ++ [(⟨be, item, key, IntKind.i64.wrap (tm + 1), 0, Te⟩ : QEnt)])]) (container_heap_Push_M (q := q) (Tq := Tq) (v1 := .map (some bm)) (v2 := .int .i64 (IntKind.i64.wrap (tm + 1))) (n := A.length) (p := p) (A := A) (e := (⟨be, item, key, IntKind.i64.wrap (tm + 1), 0, Te⟩ : QEnt)) rfl hN2 h.q h.p hm) rfl rfl rfl (by decide) rfl rfl (fun H => rfl) rfl (by decide) (by decide) (.cons rfl <| .cons rfl <| .cons rfl <| .nil) .nil ?_ (by decide)
  rintro _ _ _ ⟨b2, cap2, tl2, A2, rfl, hp2, rfl, rfl, hQ2, hS2⟩
  obtain ⟨hI2, hU2⟩ := new_inv (e := (⟨be, item, key, IntKind.i64.wrap (tm + 1), 0, Te⟩ : QEnt)) h hno hp2 hS2 hQ2
  have hl2 : A2.length = A.length + 1 := by rw [← hS2.len]; simp
  exact .n <| .retM (F' := fo [oneO q (.c Tq [slc b2 (A.length + 1) cap2, .map (some bm), .int .i64 (IntKind.i64.wrap (tm + 1))]), oneO b2 (.c 160 (arrV A2 ++ tl2)), enF A2, oneO bm (.m (putI m (item : Nat) (ptr be 0)))]) (ds' := []) (v := .tuple #[]) (.inr rfl) rfl (.nil) (fun H => rfl) (.cons rfl <| .cons rfl <| .cons rfl <| .cons rfl <| .nil) .nil rfl rfl (⟨some (b2, cap2, tl2), A2, _, rfl, by rw [← hl2]; rfl, rfl, hI2, hU2⟩)
theorem openlist_Queue_uint32_Take_M {q Tq bm : Nat} {tm : Int} {p : Pl} {A : List QEnt} {m : List (Int × Value)} (h : QInv p A m) (h0 : A.length ≠ 0) (hm : A.length ≤ 1000000) : DoesM Tryz.prog 56 [ptr q 0] [] 4 (qF q Tq bm (tm) p A m) (fun v F' ds' => ∃ p' A' m' x, v = .tuple #[u32 x.item, .int .i64 x.key, .bool true] ∧ F' = qF q Tq bm (tm) p' A' m' ∧ ds' = [] ∧ QInv p' A' m' ∧ QDel A x A') := by
 obtain ⟨n, hn⟩ : ∃ n, A.length = n + 1 := ⟨A.length - 1, by omega⟩
 obtain ⟨ba, cap, tl, rfl⟩ := h.p.some h0
 have hcap := (h.p.s ba cap tl rfl).2.1
 refine DoesM.of_body Tryz.func56 rfl rfl (by simp) Tryz.call56 (.inr fun v F' ds' h => ⟨0, q, 0, by decide, by decide, by simp [fo, oneO], by obtain ⟨_, _, _, _, _, rfl, _⟩ := h; simp [fo, oneO]⟩) (fun Oc W => ?_); refine .g <| .r <| .a ?_; refine .a ?_; refine .a ?_; refine .sq <| .g <| .g <| .r <| .m ?_; refine .x (OpSem.nilv rfl rfl) ?_; refine .x (OpSem.fieldv rfl rfl fo159_0) ?_; refine .x (OpSem.loadO (h := 0) rfl rfl rfl vs157 oneO_s rfl) ?_; refine .x (OpSem.lenv rfl rfl es157) ?_; refine .x (.b beql) ?_; refine .sq <| .cond rfl (fun c11 => ?_) (fun c11 => ?_)
 ·exfalso; have : (A.length : Int) = 0 := by simpa using c11
  omega
 ·refine .p <| .z <| .m ?_; refine .x (OpSem.nilv rfl rfl) ?_; refine .x (OpSem.fieldv rfl rfl fo159_0) ?_; refine .x (OpSem.mkI rfl rfl (by kernel_rfl)) ?_; refine .poEq 0 rfl (show oneO q (.c Tq [slc ba A.length cap, .map (some bm), .int .i64 (tm)]) = oneO q (.c Tq [slc ba (n + 1) cap, .map (some bm), .int .i64 (tm)]) from by rw [hn]) ?_; refine .callM (hs := [0, 1, 2]) (kd := 5017) (F := fo [oneO q (.c Tq [slc ba (n + 1) cap, .map (some bm), .int .i64 (tm)]), oneO ba (.c 160 (arrV A ++ tl)), enF A]) (container_heap_Pop_M (q := q) (Tq := Tq) (v1 := .map (some bm)) (v2 := .int .i64 tm) (ba := ba) (cap := cap) (n := n) (tl := tl) (A := A) hn (by omega) (by omega) h.q) rfl rfl rfl (by decide) rfl rfl (fun H => rfl) rfl (by decide) (by decide) (.cons rfl <| .cons rfl <| .cons rfl <| .nil) .nil ?_ (by decide)
  rintro _ _ _ ⟨A3, x, rfl, rfl, rfl, hQ3, hS3, hn3⟩
  obtain ⟨hQ4, hM4, hD4⟩ := take_inv h hS3 hQ3
  have hN3 := hQ3.nd
  refine .x (OpSem.asI rfl rfl (by kernel_rfl)) ?_; refine .a ?_; refine .sq <| .g <| PC.start [] ?_; refine .m ?_; refine .x (OpSem.nilv rfl rfl) ?_; refine .x (OpSem.fieldv rfl rfl fo159_1) ?_; refine .x (OpSem.loadO (h := 0) rfl rfl rfl vs155 oneO_s rfl) ?_; refine .m ?_; refine .x (OpSem.nilv rfl rfl) ?_; refine .x (OpSem.fieldv rfl rfl fo163_0) ?_; refine .x (OpSem.loadO (h := 2) rfl rfl rfl vs72 (ent_in hN3) rfl) ?_; refine .d0 mixed ?_; refine .ofSt0' (OpSt.delO (h := 3) (l := m) (n := (x.item : Nat)) (F' := oneO bm (.m (delI m (x.item : Nat)))) rfl rfl rfl rfl oneO_s mt155 iu72 updO_one) rfl rfl rfl ?_; refine .sq <| .g <| PC.start [] ?_; refine .m ?_; refine .x (OpSem.nilv rfl rfl) ?_; refine .x (OpSem.fieldv rfl rfl fo163_0) ?_; refine .x (OpSem.loadO (h := 2) rfl rfl rfl vs72 (ent_in hN3) rfl) ?_; refine .m ?_; refine .x (OpSem.nilv rfl rfl) ?_; refine .x (OpSem.fieldv rfl rfl fo163_1) ?_; refine .x (OpSem.loadO (h := 2) rfl rfl rfl vs3 (ent_in hN3) rfl) ?_; refine .x (OpSem.move (.inr rfl) rfl) ?_; refine .d0 mixed ?_; refine .a ?_; refine .a ?_; refine .dropO (F' := enF A3) 2 rfl (ent_drop hN3) ?_; refine .poEq 1 rfl (show oneO ba (.c 160 (arrV (A3 ++ [x]) ++ tl)) = oneO ba (.c 160 (arrV A3 ++ (ptr x.blk 0 :: tl))) from by rw [← arrV_app, List.append_assoc]; rfl) ?_; exact .sq <| .t <| .retM (F' := fo [oneO q (.c Tq [slc ba n cap, .map (some bm), .int .i64 (tm)]), oneO ba (.c 160 (arrV A3 ++ (ptr x.blk 0 :: tl))), enF A3, oneO bm (.m (delI m (x.item : Nat)))]) (ds' := []) (v := .tuple #[u32 x.item, .int .i64 x.key, .bool true]) (.inl rfl) rfl (.tmp rfl <| .tmp rfl <| .tmp rfl <| .nil) (fun H => rfl) (.cons rfl <| .cons rfl <| .cons rfl <| .cons rfl <| .nil) .nil rfl rfl (⟨some (ba, cap, ptr x.blk 0 :: tl), A3, _, x, rfl, by rw [← hn3]; rfl, rfl, ⟨(del_keys h.k).1, hQ4, take_pl h.p (by omega), hM4⟩, hD4⟩)
end Go.Proofs.YtgophedpkiidkaaGreat
end

section
namespace Go.Eng
structure BkE where
 key : Nat
 b : Nat
 cap : Nat
 tl : List Value
 arcs : List (Nat × Int)
abbrev bkRow (a : Nat × Int) : List Value := [u32 (a.1 : Int), .int .i64 a.2]
def BkE.val (e : BkE) : Value := slc e.b e.arcs.length e.cap
def BkE.cells (e : BkE) : List Value := (e.arcs.map bkRow).flatten ++ e.tl
abbrev bkM (L : List BkE) : List (Int × Value) := L.map fun e : BkE => ((e.key : Int), e.val)
def bkF (T : Nat) (L : List BkE) : HP := fun c => (L.find? fun e => decide (e.b = c)).map fun e => .c T e.cells
def bkAt (L : List BkE) (k : Nat) : Option BkE := L.find? fun e => decide (e.key = k)
def bkUp : List BkE → BkE → List BkE
 | [], e => [e]
 | x :: L, e => if x.key = e.key then e :: L else x :: bkUp L e
theorem lookI_bk {k : Nat} : ∀ {L : List BkE}, lookI (bkM L) (k : Int) = (bkAt L k).map BkE.val
 | [] => rfl
 | e :: L => by
  rw [show bkM (e :: L) = ((e.key : Int), e.val) :: bkM L from rfl, lookI_cons, lookI_bk (L := L)]
  unfold bkAt
  by_cases h : e.key = k
  ·simp [List.find?_cons, h]
  ·rw [if_neg (by simp; omega)]; simp [List.find?_cons, h]
theorem putI_bk {e : BkE} : ∀ {L : List BkE}, putI (bkM L) (e.key : Int) e.val = bkM (bkUp L e)
 | [] => rfl
 | x :: L => by
  rw [show bkM (x :: L) = ((x.key : Int), x.val) :: bkM L from rfl, putI, bkUp]
  by_cases h : x.key = e.key
  ·rw [if_pos (by simp; omega), if_pos h]; rfl
  ·rw [if_neg (by simp; omega), if_neg h, putI_bk (L := L)]; rfl
theorem bkAt_up {e : BkE} {k : Nat} : ∀ {L : List BkE}, bkAt (bkUp L e) k = if k = e.key then some e else bkAt L k
 | [] => by
  unfold bkUp bkAt
  by_cases h : e.key = k
  ·simp [List.find?_cons, h]
  ·simp [List.find?_cons, h]; intro h2; exact absurd h2.symm h
 | x :: L => by
  have ih := bkAt_up (e := e) (k := k) (L := L)
  unfold bkUp
  by_cases h : x.key = e.key
  ·rw [if_pos h]
   unfold bkAt
   by_cases h2 : e.key = k
   ·simp [List.find?_cons, h2]
   ·rw [List.find?_cons, List.find?_cons]
    simp only [h2, decide_false, h]
    rw [if_neg (fun h3 => h2 h3.symm)]
  ·rw [if_neg h]
   unfold bkAt at ih ⊢
   by_cases h2 : x.key = k
   ·simp only [List.find?_cons, h2, decide_true]
    rw [if_neg (fun h3 => h (by rw [h2, h3]))]
   ·simp only [List.find?_cons, h2, decide_false]
    exact ih
structure BkOk (L : List BkE) : Prop where
 k : (L.map (·.key)).Nodup
 b : (L.map (·.b)).Nodup
 p : ∀ e, e ∈ L → PlOk (some (e.b, e.cap, e.tl)) 2 e.arcs.length (e.arcs.map bkRow).flatten
section
variable {P : Program} {N : Nat} {w0 : World} {O0 : Nat → Nat} {ops : Array Oper} {Q : Post} {e : Env} {M : Mem} {rest : List Oper}
theorem TrOps.splitO (h k : Nat) {F F1 G : HP} (hM : look M h = some (poM F)) (hhk : h ≠ k) (hF1 : ∀ b x, F1 b = some x → F b = some x ∧ G b = none) (hG : ∀ b x, G b = some x → F b = some x)
  (hc : TrOps P N w0 O0 ops Q e ((k, poM G) :: (h, poM F1) :: M) rest) : TrOps P N w0 O0 ops Q e M rest := by
 classical
 intro O H a w hst
 have hF := hst.mem h _ hM
 obtain ⟨O', hO'⟩ : ∃ O' : Nat → Nat, O' = fun b => if (G b).isSome then k + 1 else O b := ⟨_, rfl⟩
 have hin : ∀ b, (G b).isSome = true → w0.heap.size ≤ b ∧ O b = h + 1 := fun b hb => by
  obtain ⟨y, hy⟩ := Option.isSome_iff_exists.1 hb
  obtain ⟨g1, g2, _⟩ := hF b y (hG b y hy)
  exact ⟨g1, g2⟩
 have hk : Keeps O w O' w := fun b _ h0 => ⟨by rw [hO']; simp only []; rw [if_neg (fun hs => by have := (hin b hs).2; omega)]; exact h0, rfl⟩
 refine hc O' H a w ⟨hst.df, hst.sz, hst.bl, fun b hb => ?_, fun m t hs => ?_, fun m mo hmo => ?_⟩
 ·rw [hO']; simp only []; rw [if_neg (fun hs => by have := (hin b hs).1; omega)]; exact hst.lab b hb
 ·obtain ⟨x, hx, hxr⟩ := hst.slots m t hs
  exact ⟨x, hx, hxr.keeps hk⟩
 ·rcases look_cons hmo with ⟨rfl, rfl⟩ | ⟨hne, hmo⟩
  ·intro b x hx
   obtain ⟨g1, g2, g3⟩ := hF b x (hG b x hx)
   exact ⟨g1, by rw [hO']; simp [hx], g3⟩
  ·rcases look_cons hmo with ⟨rfl, rfl⟩ | ⟨hne2, hmo⟩
   ·intro b x hx
    obtain ⟨q1, q2⟩ := hF1 b x hx
    obtain ⟨g1, g2, g3⟩ := hF b x q1
    exact ⟨g1, by rw [hO']; simp [q2]; exact g2, g3⟩
   ·exact (hst.mem m mo hmo).move hk fun b _ hb => ⟨by rw [hO']; simp only []; rw [if_neg (fun hs => by have := (hin b hs).2; omega)], rfl⟩
end
theorem nodup_inj {α β : Type} {f : α → β} : ∀ {l : List α}, (l.map f).Nodup → ∀ x, x ∈ l → ∀ y, y ∈ l → f x = f y → x = y
 | [], _, x, hx, _, _, _ => by cases hx
 | a :: l, h, x, hx, y, hy, e => by
  rw [List.map_cons, List.nodup_cons] at h
  rcases List.mem_cons.1 hx with h1 | h1
  ·rcases List.mem_cons.1 hy with h2 | h2
   ·rw [h1, h2]
   ·exact absurd (List.mem_map.2 ⟨y, h2, by rw [← e, h1]⟩) h.1
  ·rcases List.mem_cons.1 hy with h2 | h2
   ·exact absurd (List.mem_map.2 ⟨x, h1, by rw [e, h2]⟩) h.1
   ·exact nodup_inj h.2 x h1 y h2 e
theorem bkF_iff {T : Nat} {L : List BkE} (hb : (L.map (·.b)).Nodup) {c : Nat} {y : OB} : bkF T L c = some y ↔ ∃ e, e ∈ L ∧ e.b = c ∧ y = .c T e.cells := by
 unfold bkF
 rw [Option.map_eq_some_iff]
 constructor
 ·rintro ⟨e, h1, h2⟩
  exact ⟨e, List.mem_of_find?_eq_some h1, by simpa using List.find?_some h1, h2.symm⟩
 ·rintro ⟨e, h1, h2, h3⟩
  cases hf : L.find? fun e => decide (e.b = c) with
  | none => exact absurd (List.find?_eq_none.1 hf e h1) (by simp [h2])
  | some e' =>
   have h4 := List.mem_of_find?_eq_some hf
   have h5 : e'.b = c := by simpa using List.find?_some hf
   have : e' = e := nodup_inj hb e' h4 e h1 (by rw [h5, h2])
   subst this
   exact ⟨_, rfl, h3.symm⟩
theorem bkAt_iff {L : List BkE} (hk : (L.map (·.key)).Nodup) {k : Nat} {e : BkE} : bkAt L k = some e ↔ e ∈ L ∧ e.key = k := by
 unfold bkAt
 constructor
 ·intro h
  exact ⟨List.mem_of_find?_eq_some h, by simpa using List.find?_some h⟩
 ·rintro ⟨h1, h2⟩
  cases hf : L.find? fun e => decide (e.key = k) with
  | none => exact absurd (List.find?_eq_none.1 hf e h1) (by simp [h2])
  | some e' =>
   have h4 := List.mem_of_find?_eq_some hf
   have h5 : e'.key = k := by simpa using List.find?_some hf
   rw [nodup_inj hk e' h4 e h1 (by rw [h5, h2])]
theorem bkUp_mem {e x : BkE} : ∀ {L : List BkE}, (L.map (·.key)).Nodup → (x ∈ bkUp L e ↔ x = e ∨ (x ∈ L ∧ x.key ≠ e.key))
 | [], _ => by simp [bkUp]
 | y :: L, hk => by
  rw [List.map_cons, List.nodup_cons] at hk
  have ih := bkUp_mem (e := e) (x := x) hk.2
  unfold bkUp
  by_cases h : y.key = e.key
  ·rw [if_pos h, List.mem_cons, List.mem_cons]
   constructor
   ·rintro (h1 | h1)
    ·exact .inl h1
    ·exact .inr ⟨.inr h1, fun h2 => hk.1 (List.mem_map.2 ⟨x, h1, by rw [h2, h]⟩)⟩
   ·rintro (h1 | ⟨h1 | h1, h2⟩)
    ·exact .inl h1
    ·subst h1; exact absurd h h2
    ·exact .inr h1
  ·rw [if_neg h, List.mem_cons, List.mem_cons, ih]
   constructor
   ·rintro (h1 | h1 | h1)
    ·subst h1; exact .inr ⟨.inl rfl, h⟩
    ·exact .inl h1
    ·exact .inr ⟨.inr h1.1, h1.2⟩
   ·rintro (h1 | ⟨h1 | h1, h2⟩)
    ·exact .inr (.inl h1)
    ·exact .inl h1
    ·exact .inr (.inr ⟨h1, h2⟩)
theorem bkUp_nodup {β : Type} {f : BkE → β} {e : BkE} : ∀ {L : List BkE}, (L.map (·.key)).Nodup → (L.map f).Nodup → (∀ x, x ∈ L → x.key ≠ e.key → f x ≠ f e) → ((bkUp L e).map f).Nodup
 | [], _, _, _ => by simp [bkUp]
 | y :: L, hk, hf, hn => by
  rw [List.map_cons, List.nodup_cons] at hk hf
  unfold bkUp
  by_cases h : y.key = e.key
  ·rw [if_pos h, List.map_cons, List.nodup_cons]
   refine ⟨fun hm => ?_, hf.2⟩
   obtain ⟨x, hx, h2⟩ := List.mem_map.1 hm
   exact hn x (List.mem_cons_of_mem _ hx) (fun h3 => hk.1 (List.mem_map.2 ⟨x, hx, by rw [h3, h]⟩)) h2
  ·rw [if_neg h, List.map_cons, List.nodup_cons]
   refine ⟨fun hm => ?_, bkUp_nodup hk.2 hf.2 fun x hx => hn x (List.mem_cons_of_mem _ hx)⟩
   obtain ⟨x, hx, h2⟩ := List.mem_map.1 hm
   rcases (bkUp_mem hk.2).1 hx with rfl | ⟨h3, _⟩
   ·exact hn y (by simp) h h2.symm
   ·exact hf.1 (List.mem_map.2 ⟨x, h3, h2⟩)
def bkP (L : List BkE) (k : Nat) : Pl := (bkAt L k).map fun e => (e.b, e.cap, e.tl)
def bkA (L : List BkE) (k : Nat) : List (Nat × Int) := ((bkAt L k).map (·.arcs)).getD []
abbrev bkX (L : List BkE) (k : Nat) : List BkE := L.filter fun e => !decide (e.key = k)
theorem bk_look {L : List BkE} {k : Nat} : (lookI (bkM L) (k : Int)).getD (.slice none 0 0) = plV (bkP L k) (bkA L k).length := by
 rw [lookI_bk]; unfold bkP bkA
 cases bkAt L k <;> rfl
theorem bkX_nodup {L : List BkE} (h : BkOk L) {k : Nat} : ((bkX L k).map (·.b)).Nodup := (List.filter_sublist.map _).nodup h.b
theorem bk_split {T : Nat} {L : List BkE} (h : BkOk L) {k : Nat} : ∀ b x, bkF T (bkX L k) b = some x → bkF T L b = some x ∧ plMe T (bkP L k) ((bkA L k).map bkRow).flatten b = none := fun b x hx => by
 obtain ⟨e, h1, h2, h3⟩ := (bkF_iff (bkX_nodup h)).1 hx
 rw [List.mem_filter] at h1
 refine ⟨(bkF_iff h.b).2 ⟨e, h1.1, h2, h3⟩, ?_⟩
 unfold bkP bkA
 cases hf : bkAt L k with
 | none => rfl
 | some e' =>
  obtain ⟨g1, g2⟩ := (bkAt_iff h.k).1 hf
  simp only [Option.map_some, plMe, oneO]
  rw [if_neg]
  intro hbe
  have := nodup_inj h.b e h1.1 e' g1 (by rw [h2, hbe])
  subst this
  simp [g2] at h1
theorem bk_own {T : Nat} {L : List BkE} (h : BkOk L) {k : Nat} : ∀ b x, plMe T (bkP L k) ((bkA L k).map bkRow).flatten b = some x → bkF T L b = some x := fun b x hx => by
 unfold bkP bkA at hx
 cases hf : bkAt L k with
 | none => rw [hf] at hx; cases hx
 | some e' =>
  rw [hf] at hx
  obtain ⟨g1, g2⟩ := (bkAt_iff h.k).1 hf
  obtain ⟨q1, q2⟩ := oneO_ne hx
  exact (bkF_iff h.b).2 ⟨e', g1, q1.symm, q2⟩
theorem bk_join {T : Nat} {L : List BkE} (h : BkOk L) {e : BkE} (hp : PlOk (some (e.b, e.cap, e.tl)) 2 e.arcs.length (e.arcs.map bkRow).flatten) (hap : ∀ c, bkF T (bkX L e.key) c ≠ none → oneO e.b (.c T e.cells) c = none) :
  BkOk (bkUp L e) ∧ (fun c => (bkF T (bkX L e.key) c).or (oneO e.b (.c T e.cells) c)) = bkF T (bkUp L e) := by
 have hX : ∀ x, x ∈ L → x.key ≠ e.key → x ∈ bkX L e.key := fun x hx hn => List.mem_filter.2 ⟨hx, by simp [hn]⟩
 have hb : ∀ x, x ∈ L → x.key ≠ e.key → x.b ≠ e.b := fun x hx hn hbe => by
  have h1 : bkF T (bkX L e.key) x.b = some (.c T x.cells) := (bkF_iff (bkX_nodup h)).2 ⟨x, hX x hx hn, rfl, rfl⟩
  have h2 := hap x.b (by rw [h1]; simp)
  unfold oneO at h2
  rw [if_pos hbe] at h2
  cases h2
 have hok : BkOk (bkUp L e) := ⟨bkUp_nodup h.k h.k fun x _ hn => hn, bkUp_nodup h.k h.b hb, fun x hx => by
  rcases (bkUp_mem h.k).1 hx with rfl | ⟨h1, _⟩
  ·exact hp
  ·exact h.p x h1⟩
 refine ⟨hok, funext fun c => Option.ext fun y => ?_⟩
 rw [bkF_iff hok.b, Option.or_eq_some_iff]
 constructor
 ·rintro (h1 | ⟨_, h1⟩)
  ·obtain ⟨x, h2, h3, h4⟩ := (bkF_iff (bkX_nodup h)).1 h1
   rw [List.mem_filter] at h2
   exact ⟨x, (bkUp_mem h.k).2 (.inr ⟨h2.1, by simpa using h2.2⟩), h3, h4⟩
  ·obtain ⟨q1, q2⟩ := oneO_ne h1
   exact ⟨e, (bkUp_mem h.k).2 (.inl rfl), q1.symm, q2⟩
 ·rintro ⟨x, h1, h2, h3⟩
  rcases (bkUp_mem h.k).1 h1 with rfl | ⟨h4, h5⟩
  ·right
   refine ⟨?_, by subst h2; rw [h3]; exact oneO_s⟩
   cases hf : bkF T (bkX L x.key) c with
   | none => rfl
   | some z =>
    have := hap c (by rw [hf]; simp)
    subst h2
    rw [oneO_s] at this; cases this
  ·left
   exact (bkF_iff (bkX_nodup h)).2 ⟨x, hX x h4 h5, h2, h3⟩
theorem bkA_up {L : List BkE} {e : BkE} {k : Nat} : bkA (bkUp L e) k = if k = e.key then e.arcs else bkA L k := by
 unfold bkA; rw [bkAt_up]; split <;> simp
theorem BkOk.nil : BkOk [] := ⟨by simp, by simp, fun e he => by cases he⟩
theorem bkP_ok {L : List BkE} (h : BkOk L) {k : Nat} : PlOk (bkP L k) 2 (bkA L k).length ((bkA L k).map bkRow).flatten := by
 unfold bkP bkA
 cases hf : bkAt L k with
 | none => exact ⟨fun _ => rfl, rfl, fun b cap tl e => by cases e⟩
 | some e => exact h.p e ((bkAt_iff h.k).1 hf).1
end Go.Eng
end

section
namespace Go.Eng
def goW (t : Tsk) (s : Nat) : Prop := s &&& wdF t.goal = wdF t.goal
instance {t : Tsk} {s : Nat} : Decidable (goW t s) := by unfold goW; exact inferInstance
def StW (t : Tsk) (s s' : Nat) (c : Int) : Prop := ∃ i : Nat, i < t.ops.length ∧ okW t s i ∧ toW t s i = s' ∧ c = (nth t.ops i).cost
structure HuW (t : Tsk) (l : List Nat) (h : Nat → Int) : Prop where
 g : ∀ s, s ∈ l → goW t s → h s ≤ 0
 st : ∀ s s' c, s ∈ l → s' ∈ l → StW t s s' c → h s ≤ h s' + c
 b : ∀ s, s ∈ l → h s ≤ 1000000000
structure CoI (t : Tsk) (l : List Nat) (f : Nat → Int) (q : Nat → Int → Prop) : Prop where
 r : ∀ s, s ∈ l → 0 ≤ f s ∧ f s ≤ 1000000000
 g : ∀ s, s ∈ l → goW t s → f s = 0
 so : ∀ h, HuW t l h → ∀ s, s ∈ l → h s ≤ f s
 qq : ∀ s k, q s k → s ∈ l ∧ f s = k ∧ k < 1000000000
 rl : ∀ s, s ∈ l → f s < 1000000000 → q s (f s) ∨ ∀ x c, x ∈ l → StW t x s c → f x ≤ f s + c
theorem CoI.start {t : Tsk} {l : List Nat} : CoI t l (fun s => if goW t s then 0 else 1000000000) (fun s k => s ∈ l ∧ goW t s ∧ k = 0) := {
 r := fun s _ => by split <;> omega
 g := fun s _ hg => by rw [if_pos hg]
 so := fun h hh s hs => by
  split
  ·rename_i hg; exact hh.g s hs hg
  ·exact hh.b s hs
 qq := fun s k ⟨h1, h2, h3⟩ => ⟨h1, by rw [if_pos h2, h3], by omega⟩
 rl := fun s hs hlt => by
  by_cases hg : goW t s
  ·left; exact ⟨hs, hg, by rw [if_pos hg]⟩
  ·rw [if_neg hg] at hlt; omega }
theorem CoI.fin {t : Tsk} {l : List Nat} {f : Nat → Int} {q : Nat → Int → Prop} (hV : TskV t) (h : CoI t l f q) (hq : ∀ s k, ¬ q s k) : HuW t l f ∧ ∀ g, HuW t l g → ∀ s, s ∈ l → g s ≤ f s := by
 refine ⟨⟨fun s hs hg => by rw [h.g s hs hg]; exact Int.le_refl _, fun s s' c hs hs' hst => ?_, fun s hs => (h.r s hs).2⟩, h.so⟩
 by_cases hlt : f s' < 1000000000
 ·rcases h.rl s' hs' hlt with h1 | h1
  ·exact absurd h1 (hq _ _)
  ·exact h1 s c hs hst
 ·obtain ⟨i, hi, _, _, rfl⟩ := hst
  have := (hV.op i hi).2.1
  have := (h.r s hs).2
  omega
structure CoJ (t : Tsk) (l : List Nat) (s : Nat) (d : Int) (R : Nat → Int → Prop) (f : Nat → Int) (q : Nat → Int → Prop) : Prop where
 r : ∀ x, x ∈ l → 0 ≤ f x ∧ f x ≤ 1000000000
 g : ∀ x, x ∈ l → goW t x → f x = 0
 so : ∀ h, HuW t l h → ∀ x, x ∈ l → h x ≤ f x
 qq : ∀ x k, q x k → x ∈ l ∧ f x = k ∧ k < 1000000000
 rl : ∀ x, x ∈ l → f x < 1000000000 → x ≠ s ∨ f s ≠ d → q x (f x) ∨ ∀ y c, y ∈ l → StW t y x c → f y ≤ f x + c
 sd : s ∈ l ∧ 0 ≤ d ∧ d < 1000000000 ∧ ∀ h, HuW t l h → h s ≤ d
 fs : f s ≤ d
 rr : ∀ x c, R x c → f x ≤ d + c
theorem CoI.take {t : Tsk} {l : List Nat} {f : Nat → Int} {q q' : Nat → Int → Prop} {s : Nat} {d : Int} (h : CoI t l f q) (hs : q s d) (hq : ∀ x k, q' x k ↔ x ≠ s ∧ q x k) : CoJ t l s d (fun _ _ => False) f q' := by
 obtain ⟨h1, h2, h3⟩ := h.qq s d hs
 refine ⟨h.r, h.g, h.so, fun x k hx => h.qq x k ((hq x k).1 hx).2, fun x hx hlt hn => ?_, ⟨h1, by rw [← h2]; exact (h.r s h1).1, h3, fun g hg => by rw [← h2]; exact h.so g hg s h1⟩, by omega, fun x c hf => hf.elim⟩
 rcases h.rl x hx hlt with h4 | h4
 ·rcases hn with hn | hn
  ·exact .inl ((hq x _).2 ⟨hn, h4⟩)
  ·exact absurd h2 hn
 ·exact .inr h4
theorem CoJ.skip {t : Tsk} {l : List Nat} {s x : Nat} {d c : Int} {R : Nat → Int → Prop} {f : Nat → Int} {q : Nat → Int → Prop} (h : CoJ t l s d R f q) (hle : f x ≤ d + c) : CoJ t l s d (fun y e => R y e ∨ (y = x ∧ e = c)) f q :=
 ⟨h.r, h.g, h.so, h.qq, h.rl, h.sd, h.fs, fun y e hr => by rcases hr with hr | ⟨rfl, rfl⟩; exact h.rr y e hr; exact hle⟩
theorem CoJ.set {t : Tsk} {l : List Nat} {s x : Nat} {d c : Int} {R : Nat → Int → Prop} {f : Nat → Int} {q q' : Nat → Int → Prop} (h : CoJ t l s d R f q) (hx : x ∈ l) (hst : StW t x s c) (hc : 0 ≤ c) (hlt : d + c < f x) (hq : ∀ y k, q' y k ↔ (y = x ∧ k = d + c) ∨ (y ≠ x ∧ q y k)) :
  CoJ t l s d (fun y e => R y e ∨ (y = x ∧ e = c)) (fun y => if y = x then d + c else f y) q' := by
 obtain ⟨hs, hd0, hd1, hdh⟩ := h.sd
 have hxr := h.r x hx
 have hxs : x ≠ s := fun e => by have := h.fs; rw [← e] at this; omega
 have hle : ∀ y, (if y = x then d + c else f y) ≤ f y := fun y => by split; rename_i e; subst e; omega; omega
 refine ⟨fun y hy => ?_, fun y hy hg => ?_, fun g hg y hy => ?_, fun y k hy => ?_, fun y hy hylt hn => ?_, h.sd, by rw [if_neg (fun e => hxs e.symm)]; exact h.fs, fun y e hr => ?_⟩
 ·split
  ·omega
  ·exact h.r y hy
 ·split
  ·rename_i e; subst e; have := h.g y hx hg; omega
  ·exact h.g y hy hg
 ·split
  ·rename_i e; subst e
   have h1 := hg.st y s c hx hs hst
   have h2 := hdh g hg
   omega
  ·exact h.so g hg y hy
 ·rcases (hq y k).1 hy with ⟨rfl, rfl⟩ | ⟨h1, h2⟩
  ·rw [if_pos rfl]; exact ⟨hx, rfl, by omega⟩
  ·rw [if_neg h1]; exact h.qq y k h2
 ·by_cases e : y = x
  ·subst e
   rw [if_pos rfl]
   exact .inl ((hq y _).2 (.inl ⟨rfl, rfl⟩))
  ·rw [if_neg e] at hylt ⊢
   rw [if_neg (fun e => hxs e.symm)] at hn
   rcases h.rl y hy hylt hn with h1 | h1
   ·exact .inl ((hq y _).2 (.inr ⟨e, h1⟩))
   ·exact .inr fun z k hz hs' => Int.le_trans (hle z) (h1 z k hz hs')
 ·rcases hr with hr | ⟨rfl, rfl⟩
  ·exact Int.le_trans (hle y) (h.rr y e hr)
  ·simp
theorem CoJ.fin {t : Tsk} {l : List Nat} {s : Nat} {d : Int} {R : Nat → Int → Prop} {f : Nat → Int} {q : Nat → Int → Prop} (h : CoJ t l s d R f q) (hR : ∀ x c, x ∈ l → StW t x s c → R x c) : CoI t l f q :=
 ⟨h.r, h.g, h.so, h.qq, fun x hx hlt => by
  by_cases hn : x ≠ s ∨ f s ≠ d
  ·exact h.rl x hx hlt hn
  ·have h1 : x = s := Classical.byContradiction fun e => hn (.inl e)
   have h2 : f s = d := Classical.byContradiction fun e => hn (.inr e)
   subst h1
   exact .inr fun y c hy hst => by rw [h2]; exact h.rr y c (hR y c hy hst)⟩
end Go.Eng
end

section
namespace Go.Eng
theorem HuW.move {t : Tsk} {l l' : List Nat} {f : Nat → Int} (h : AlW t l) (h' : AlW t l') (hf : HuW t l f) : HuW t l' f := by
 have e : ∀ s, s ∈ l' → s ∈ l := fun s hs => h.iff.2 (h'.iff.1 hs)
 exact ⟨fun s hs => hf.g s (e s hs), fun s s' c hs hs' => hf.st s s' c (e s hs) (e s' hs'), fun s hs => hf.b s (e s hs)⟩
def TopW (t : Tsk) (l : List Nat) (f : Nat → Int) : Prop := HuW t l f ∧ ∀ g, HuW t l g → ∀ s, s ∈ l → g s ≤ f s
theorem TopW.uniq {t : Tsk} {l l' : List Nat} {f f' : Nat → Int} (h : AlW t l) (h' : AlW t l') (hf : TopW t l f) (hf' : TopW t l' f') {s : Nat} (hs : s ∈ l) : f s = f' s := by
 have hs' : s ∈ l' := h'.iff.2 (h.iff.1 hs)
 have h1 := hf'.2 f (hf.1.move h h') s hs'
 have h2 := hf.2 f' (hf'.1.move h' h) s hs
 omega
noncomputable def optF (t : Tsk) : Int × Int := open Classical in if tskF t ≠ (0, 0) then tskF t else if BigW t then (10, -7) else (0, 0)
noncomputable def optV (t : Tsk) : Int := open Classical in if optF t ≠ (0, 0) then 0 else if h : ∃ v : Int, ∃ l f, AlW t l ∧ TopW t l f ∧ v = f (wdF t.ini) then h.choose else 0
theorem optF_1 {t : Tsk} (h : tskF t ≠ (0, 0)) : optF t = tskF t ∧ optV t = 0 := by
 have : optF t = tskF t := by unfold optF; rw [if_pos h]
 exact ⟨this, by unfold optV; rw [this, if_pos h]⟩
theorem optF_2 {t : Tsk} (h : tskF t = (0, 0)) (hb : BigW t) : optF t = (10, -7) ∧ optV t = 0 := by
 have : optF t = (10, -7) := by unfold optF; rw [if_neg (fun hn => hn h), if_pos hb]
 exact ⟨this, by unfold optV; rw [this, if_pos (by decide)]⟩
theorem optF_0 {t : Tsk} {l : List Nat} {f : Nat → Int} (h : tskF t = (0, 0)) (hA : AlW t l) (hl : l.length ≤ 2000) (hf : TopW t l f) : optF t = (0, 0) ∧ optV t = f (wdF t.ini) := by
 have hb := hA.small hl
 have h0 : optF t = (0, 0) := by unfold optF; rw [if_neg (fun hn => hn h), if_neg hb]
 refine ⟨h0, ?_⟩
 have hex : ∃ v : Int, ∃ l f, AlW t l ∧ TopW t l f ∧ v = f (wdF t.ini) := ⟨_, l, f, hA, hf, rfl⟩
 unfold optV
 rw [if_neg (fun hn => hn h0), dif_pos hex]
 obtain ⟨l', f', h1, h2, h3⟩ := hex.choose_spec
 rw [h3]
 exact (hf.uniq hA h1 h2 hA.ini).symm
end Go.Eng
end

section
namespace Go.Eng
abbrev wMp (L : List (Nat × Int)) : List (Int × Value) := L.map fun p : Nat × Int => ((p.1 : Int), Value.int .i64 p.2)
def wAt (L : List (Nat × Int)) (k : Nat) : Option Int := (L.find? fun p => decide (p.1 = k)).map (·.2)
def wUp : List (Nat × Int) → Nat → Int → List (Nat × Int)
 | [], k, v => [(k, v)]
 | p :: L, k, v => if p.1 = k then (k, v) :: L else p :: wUp L k v
def wF (L : List (Nat × Int)) (s : Nat) : Int := (wAt L s).getD 0
theorem wAt_cons {p : Nat × Int} {L : List (Nat × Int)} {k : Nat} : wAt (p :: L) k = if p.1 = k then some p.2 else wAt L k := by
 unfold wAt
 by_cases h : p.1 = k <;> simp [List.find?_cons, h]
theorem lookI_v {k : Nat} : ∀ {L : List (Nat × Int)}, lookI (wMp L) (k : Int) = (wAt L k).map (Value.int .i64)
 | [] => rfl
 | p :: L => by
  rw [show wMp (p :: L) = ((p.1 : Int), Value.int .i64 p.2) :: wMp L from rfl, lookI_cons, lookI_v (L := L), wAt_cons]
  by_cases h : p.1 = k
  ·rw [if_pos (by simp; omega), if_pos h]; rfl
  ·rw [if_neg (by simp; omega), if_neg h]
theorem putI_v {k : Nat} {v : Int} : ∀ {L : List (Nat × Int)}, putI (wMp L) (k : Int) (.int .i64 v) = wMp (wUp L k v)
 | [] => rfl
 | p :: L => by
  rw [show wMp (p :: L) = ((p.1 : Int), Value.int .i64 p.2) :: wMp L from rfl, putI, wUp]
  by_cases h : p.1 = k
  ·rw [if_pos (by simp; omega), if_pos h]; rfl
  ·rw [if_neg (by simp; omega), if_neg h, putI_v (L := L)]; rfl
theorem wAt_up {j k : Nat} {v : Int} : ∀ {L : List (Nat × Int)}, wAt (wUp L k v) j = if j = k then some v else wAt L j
 | [] => by
  rw [wUp, wAt_cons]
  by_cases h : k = j
  ·rw [if_pos h, if_pos h.symm]
  ·rw [if_neg h, if_neg (fun e => h e.symm)]
 | p :: L => by
  have ih := wAt_up (j := j) (k := k) (v := v) (L := L)
  rw [wUp]
  by_cases h : p.1 = k
  ·rw [if_pos h, wAt_cons, wAt_cons]
   by_cases h2 : k = j
   ·rw [if_pos h2, if_pos h2.symm]
   ·rw [if_neg h2, if_neg (fun e => h2 e.symm), if_neg (by rw [h]; exact h2)]
  ·rw [if_neg h, wAt_cons, wAt_cons, ih]
   by_cases h2 : p.1 = j
   ·rw [if_pos h2, if_pos h2, if_neg (fun e => h (by rw [h2, e]))]
   ·rw [if_neg h2, if_neg h2]
theorem wF_up {j k : Nat} {v : Int} {L : List (Nat × Int)} : wF (wUp L k v) j = if j = k then v else wF L j := by
 unfold wF; rw [wAt_up]; split <;> rfl
theorem look_v {k : Nat} {L : List (Nat × Int)} : (lookI (wMp L) (k : Int)).getD (.int .i64 0) = .int .i64 (wF L k) := by
 rw [lookI_v]; unfold wF; cases wAt L k <;> rfl
structure BkI (t : Tsk) (D : List Nat) (s k n : Nat) (L : List BkE) : Prop where
 ok : BkOk L
 m : ∀ (to x : Nat) (c : Int), (x, c) ∈ bkA L to ↔ (x ∈ D ∧ StW t x to c) ∨ (x = s ∧ ∃ j : Nat, j < k ∧ toW t s (nth (opL t s) j) = to ∧ c = (nth t.ops ((nth (opL t s) j : Nat) : Int)).cost)
 n : ∀ to, (bkA L to).length ≤ n
theorem BkI.nil {t : Tsk} {s : Nat} : BkI t [] s 0 0 [] := ⟨.nil, fun to x c => by simp [bkA, bkAt], fun to => by simp [bkA, bkAt]⟩
theorem BkI.done {t : Tsk} {D : List Nat} {s s' n : Nat} {L : List BkE} (h : BkI t D s (opL t s).length n L) : BkI t (D ++ [s]) s' 0 n L := by
 refine ⟨h.ok, fun to x c => (h.m to x c).trans ?_, h.n⟩
 constructor
 ·rintro (⟨h1, h2⟩ | ⟨rfl, j, h1, h2, h3⟩)
  ·exact .inl ⟨List.mem_append.2 (.inl h1), h2⟩
  ·obtain ⟨g1, g2⟩ := opT_mem.1 (show nth (opL t x) (j : Int) ∈ opL t x from nth_mem (by omega) (by omega))
   exact .inl ⟨by simp, _, g1, g2, h2, h3⟩
 ·rintro (⟨h1, h2⟩ | ⟨_, j, h1, _⟩)
  ·rcases List.mem_append.1 h1 with h1 | h1
   ·exact .inl ⟨h1, h2⟩
   ·simp at h1; subst h1
    obtain ⟨i, g1, g2, g3, g4⟩ := h2
    have hm : i ∈ opL t x := opT_mem.2 ⟨g1, g2⟩
    obtain ⟨j, hj⟩ := List.getElem?_of_mem hm
    have hlt := (List.getElem?_eq_some_iff.1 hj).1
    have e : nth (opL t x) (j : Int) = i := by rw [nth_eq hlt]; exact (List.getElem?_eq_some_iff.1 hj).2
    exact .inr ⟨rfl, j, hlt, by rw [e]; exact g3, by rw [e]; exact g4⟩
  ·omega
theorem BkI.add {t : Tsk} {D : List Nat} {s k n : Nat} {L : List BkE} {e : BkE} (h : BkI t D s k n L) (hok : BkOk (bkUp L e)) (hk : e.key = toW t s (nth (opL t s) k)) (ha : e.arcs = bkA L e.key ++ [(s, (nth t.ops ((nth (opL t s) k : Nat) : Int)).cost)]) : BkI t D s (k + 1) (n + 1) (bkUp L e) := by
 refine ⟨hok, fun to x c => ?_, fun to => ?_⟩
 ·rw [bkA_up]
  by_cases hto : to = e.key
  ·rw [if_pos hto, ha, List.mem_append, ← hto, h.m to x c]
   constructor
   ·rintro ((h1 | ⟨h1, j, h2, h3⟩) | h1)
    ·exact .inl h1
    ·exact .inr ⟨h1, j, by omega, h3⟩
    ·simp only [List.mem_singleton, Prod.mk.injEq] at h1
     exact .inr ⟨h1.1, k, by omega, by rw [hto, hk], h1.2⟩
   ·rintro (h1 | ⟨h1, j, h2, h3, h4⟩)
    ·exact .inl (.inl h1)
    ·by_cases hj : j = k
     ·subst hj; exact .inr (by rw [h1, h4]; simp)
     ·exact .inl (.inr ⟨h1, j, by omega, h3, h4⟩)
  ·rw [if_neg hto, h.m to x c]
   constructor
   ·rintro (h1 | ⟨h1, j, h2, h3⟩)
    ·exact .inl h1
    ·exact .inr ⟨h1, j, by omega, h3⟩
   ·rintro (h1 | ⟨h1, j, h2, h3, h4⟩)
    ·exact .inl h1
    ·by_cases hj : j = k
     ·subst hj; exact absurd (by rw [← h3, hk]) hto
     ·exact .inr ⟨h1, j, by omega, h3, h4⟩
 ·rw [bkA_up]
  have := h.n to
  split
  ·rename_i hto; rw [ha, List.length_append, ← hto]; simp; omega
  ·omega
end Go.Eng
end

section
namespace Go.Eng
abbrev wrdL (l : List Nat) : D := .s 1 (l.map u32C)
theorem BkI.wk {t : Tsk} {D : List Nat} {s k n n' : Nat} {L : List BkE} (h : BkI t D s k n L) (hn : n ≤ n') : BkI t D s k n' L := ⟨h.ok, h.m, fun to => Nat.le_trans (h.n to) hn⟩
theorem BkI.at0 {t : Tsk} {D : List Nat} {s s' n : Nat} {L : List BkE} (h : BkI t D s 0 n L) : BkI t D s' 0 n L :=
 ⟨h.ok, fun to x c => (h.m to x c).trans ⟨fun h => h.elim .inl fun ⟨_, j, hj, _⟩ => absurd hj (Nat.not_lt_zero j), fun h => h.elim .inl fun ⟨_, j, hj, _⟩ => absurd hj (Nat.not_lt_zero j)⟩, h.n⟩
abbrev bkE (L : List BkE) (to b cap : Nat) (tl : List Value) (s : Nat) (c : Int) : BkE := ⟨to, b, cap, tl, bkA L to ++ [(s, c)]⟩
theorem bkE_p {L : List BkE} {to b cap : Nat} {tl : List Value} {s : Nat} {c : Int} (h : PlOk (some (b, cap, tl)) 2 (((bkA L to).map bkRow).length + 1) (((bkA L to).map bkRow).flatten ++ [u32 (s : Int), .int .i64 c])) :
  PlOk (some ((bkE L to b cap tl s c).b, (bkE L to b cap tl s c).cap, (bkE L to b cap tl s c).tl)) 2 (bkE L to b cap tl s c).arcs.length ((bkE L to b cap tl s c).arcs.map bkRow).flatten := by
 have e1 : (bkE L to b cap tl s c).arcs.length = ((bkA L to).map bkRow).length + 1 := by simp
 have e2 : ((bkE L to b cap tl s c).arcs.map bkRow).flatten = ((bkA L to).map bkRow).flatten ++ [u32 (s : Int), .int .i64 c] := by simp
 rw [e1, e2]; exact h
theorem bkE_c {T : Nat} {L : List BkE} {to b cap : Nat} {tl : List Value} {s : Nat} {c : Int} : oneO b (.c T (((bkA L to).map bkRow).flatten ++ [u32 (s : Int), .int .i64 c] ++ tl)) = oneO (bkE L to b cap tl s c).b (.c T (bkE L to b cap tl s c).cells) := by
 have : (bkE L to b cap tl s c).cells = ((bkA L to).map bkRow).flatten ++ [u32 (s : Int), .int .i64 c] ++ tl := by simp [BkE.cells]
 rw [this]
theorem bkE_put {bb : Nat} {L : List BkE} {to b cap : Nat} {tl : List Value} {s : Nat} {c : Int} : updO (oneO bb (.m (bkM L))) bb (.m (putI (bkM L) (to : Int) (slc b (((bkA L to).map bkRow).length + 1) cap))) = oneO bb (.m (bkM (bkUp L (bkE L to b cap tl s c)))) := by
 rw [updO_one, ← putI_bk]
 have : (bkE L to b cap tl s c).val = slc b (((bkA L to).map bkRow).length + 1) cap := by simp [BkE.val]
 rw [this]
theorem bk_look2 {L : List BkE} {k : Nat} : (lookI (bkM L) (k : Int)).getD (.slice none 0 0) = plV (bkP L k) ((bkA L k).map bkRow).length := by rw [bk_look, List.length_map]
theorem bk_rows {L : List (Nat × Int)} : ∀ r, r ∈ L.map bkRow → r.length = 2 ∧ ∀ u, u ∈ r → u.oneCell' = true := fun r hr => by
 obtain ⟨a, _, rfl⟩ := List.mem_map.1 hr
 refine ⟨rfl, fun u hu => ?_⟩
 simp only [List.mem_cons, List.not_mem_nil, or_false] at hu
 rcases hu with rfl | rfl <;> rfl
theorem bkP_ok2 {L : List BkE} (h : BkOk L) {k : Nat} : PlOk (bkP L k) 2 ((bkA L k).map bkRow).length ((bkA L k).map bkRow).flatten := by rw [List.length_map]; exact bkP_ok h
theorem bk_put2 {b : Nat} {L : List (Nat × Int)} {k : Nat} {v : Int} : updO (oneO b (.m (wMp L))) b (.m (putI (wMp L) (k : Int) (.int .i64 v))) = oneO b (.m (wMp (wUp L k v))) := by rw [updO_one, putI_v]
theorem bk_cell {L : List (Nat × Int)} {tl : List Value} {i : Nat} (h : i < L.length) : (((L.map bkRow).flatten ++ tl).drop (0 + (i : Int).toNat * 2)).take 2 = bkRow (nth L i) := by
 have hf : (L.map bkRow).flatten.length = L.length * 2 := by
  have := flat_len (k := 2) (rows := L.map bkRow) fun r hr => (bk_rows r hr).1
  simpa using this
 apply List.ext_getElem?
 intro j
 by_cases hj : j < 2
 ·rw [List.getElem?_take_of_lt hj, List.getElem?_drop]
  have hlt : (0 + (i : Int).toNat * 2 + j) < (L.map bkRow).flatten.length := by rw [hf]; simp; omega
  rw [List.getElem?_append_left hlt]
  have hr : (L.map bkRow)[i]? = some (bkRow (nth L i)) := by rw [List.getElem?_map, List.getElem?_eq_getElem h, nth_eq h]; rfl
  have hx : (bkRow (nth L i))[j]? = some ((bkRow (nth L i))[j]'(by simpa using hj)) := List.getElem?_eq_getElem _
  have := flat_get (k := 2) (fun r hr => (bk_rows r hr).1) hr hx
  rw [hx, ← this]; congr 1; simp
 ·rw [List.getElem?_take_eq_none (by omega), List.getElem?_eq_none (by simp; omega)]
theorem bk_blk {T : Nat} {L : List BkE} (h : BkOk L) {k b cap : Nat} {tl : List Value} (hp : bkP L k = some (b, cap, tl)) : bkF T L b = some (.c T (((bkA L k).map bkRow).flatten ++ tl)) := by
 unfold bkP at hp
 obtain ⟨e, h1, h2⟩ := Option.map_eq_some_iff.1 hp
 obtain ⟨g1, g2⟩ := (bkAt_iff h.k).1 h1
 have : bkA L k = e.arcs := by unfold bkA; rw [h1]; rfl
 rw [this]
 cases h2
 exact (bkF_iff h.b).2 ⟨e, g1, rfl, rfl⟩
theorem CoI.congr {t : Tsk} {l : List Nat} {f f' : Nat → Int} {q q' : Nat → Int → Prop} (h : CoI t l f q) (hf : ∀ s, s ∈ l → f' s = f s) (hq : ∀ s k, q' s k ↔ q s k) : CoI t l f' q' :=
 ⟨fun s hs => by rw [hf s hs]; exact h.r s hs, fun s hs hg => by rw [hf s hs]; exact h.g s hs hg, fun g hg s hs => by rw [hf s hs]; exact h.so g hg s hs,
  fun s k hs => by
   obtain ⟨h1, h2, h3⟩ := h.qq s k ((hq s k).1 hs)
   exact ⟨h1, by rw [hf s h1]; exact h2, h3⟩,
  fun s hs hlt => by
   rw [hf s hs] at hlt ⊢
   rcases h.rl s hs hlt with h1 | h1
   ·exact .inl ((hq _ _).2 h1)
   ·exact .inr fun x c hx hst => by rw [hf x hx]; exact h1 x c hx hst⟩
theorem CoJ.wk {t : Tsk} {l : List Nat} {s : Nat} {d : Int} {R R' : Nat → Int → Prop} {f f' : Nat → Int} {q : Nat → Int → Prop} (h : CoJ t l s d R f q) (hf : f' = f) (hR : ∀ x c, R' x c → R x c) : CoJ t l s d R' f' q := by
 subst hf
 exact ⟨h.r, h.g, h.so, h.qq, h.rl, h.sd, h.fs, fun x c hx => h.rr x c (hR x c hx)⟩
structure CoS (t : Tsk) (l : List Nat) (i : Nat) (Lo : List (Nat × Int)) (A : List QEnt) : Prop where
 f : ∀ s, s ∈ l.take i → wF Lo s = if goW t s then 0 else 1000000000
 q : ∀ s k, QHas A s k ↔ s ∈ l.take i ∧ goW t s ∧ k = 0
 n : A.length ≤ i
theorem CoS.start {t : Tsk} {l : List Nat} : CoS t l 0 [] [] := ⟨fun s hs => by simp at hs, fun s k => by simp [QHas], Nat.le_refl _⟩
theorem take_mem {α : Type} [Inhabited α] {l : List α} {i : Nat} (h : i < l.length) {x : α} : x ∈ l.take (i + 1) ↔ x ∈ l.take i ∨ x = nth l i := by
 rw [List.take_succ_eq_append_getElem h, List.mem_append, List.mem_singleton, nth_eq h]
theorem CoS.no {t : Tsk} {l : List Nat} {i : Nat} {Lo : List (Nat × Int)} {A : List QEnt} (h : CoS t l i Lo A) (hi : i < l.length) (hg : ¬ goW t (nth l i)) : CoS t l (i + 1) (wUp Lo (nth l i) 1000000000) A := by
 refine ⟨fun s hs => ?_, fun s k => ?_, by have := h.n; omega⟩
 ·rw [wF_up]
  split
  ·rename_i e; rw [e, if_neg hg]
  ·rename_i e; exact h.f s (((take_mem hi).1 hs).resolve_right e)
 ·rw [h.q, take_mem hi]
  constructor
  ·rintro ⟨h1, h2⟩; exact ⟨.inl h1, h2⟩
  ·rintro ⟨h1 | h1, h2⟩
   ·exact ⟨h1, h2⟩
   ·rw [h1] at h2; exact absurd h2.1 hg
theorem CoS.yes {t : Tsk} {l : List Nat} {i : Nat} {Lo : List (Nat × Int)} {A A' : List QEnt} (h : CoS t l i Lo A) (hi : i < l.length) (hg : goW t (nth l i)) (hu : QUpd A (nth l i) 0 A') : CoS t l (i + 1) (wUp (wUp Lo (nth l i) 1000000000) (nth l i) 0) A' := by
 refine ⟨fun s hs => ?_, fun s k => ?_, by have := h.n; have := hu.2; omega⟩
 ·rw [wF_up]
  split
  ·rename_i e; rw [e, if_pos hg]
  ·rename_i e; rw [wF_up, if_neg e]; exact h.f s (((take_mem hi).1 hs).resolve_right e)
 ·rw [hu.1, take_mem hi, h.q]
  constructor
  ·rintro (⟨h1, h2⟩ | ⟨_, h1, h2⟩)
   ·exact ⟨.inr h1, by rw [h1]; exact hg, h2⟩
   ·exact ⟨.inl h1, h2⟩
  ·rintro ⟨h1, h2, h3⟩
   by_cases e : s = nth l i
   ·exact .inl ⟨e, h3⟩
   ·exact .inr ⟨e, h1.resolve_right e, h2, h3⟩
theorem CoS.fin {t : Tsk} {l : List Nat} {i : Nat} {Lo : List (Nat × Int)} {A : List QEnt} (h : CoS t l i Lo A) (hi : i = l.length) : CoI t l (wF Lo) (QHas A) := by
 subst hi
 have hf := h.f; have hq := h.q
 rw [List.take_length] at hf hq
 exact CoI.start.congr hf hq
def sumW (l : List Nat) (f : Nat → Int) : Nat := (l.map fun s => (f s).toNat).sum
theorem sumW_le {f g : Nat → Int} : ∀ {l : List Nat}, (∀ s, s ∈ l → f s ≤ g s) → sumW l f ≤ sumW l g
 | [], _ => Nat.le_refl _
 | a :: l, h => by
  have h1 := sumW_le (l := l) fun s hs => h s (List.mem_cons_of_mem _ hs)
  have h2 := h a (by simp)
  unfold sumW at h1 ⊢
  simp only [List.map_cons, List.sum_cons]
  omega
theorem sumW_lt {f g : Nat → Int} {x : Nat} : ∀ {l : List Nat}, (∀ s, s ∈ l → f s ≤ g s) → x ∈ l → 0 ≤ f x → f x < g x → sumW l f < sumW l g
 | [], _, h, _, _ => by cases h
 | a :: l, h, hx, h0, hlt => by
  have h2 := h a (by simp)
  have h3 := sumW_le (l := l) fun s hs => h s (List.mem_cons_of_mem _ hs)
  rcases List.mem_cons.1 hx with e | hx
  ·subst e
   unfold sumW at h3 ⊢
   simp only [List.map_cons, List.sum_cons]
   omega
  ·have h1 := sumW_lt (l := l) (fun s hs => h s (List.mem_cons_of_mem _ hs)) hx h0 hlt
   unfold sumW at h1 ⊢
   simp only [List.map_cons, List.sum_cons]
   omega
theorem QInv.len {p : Pl} {A : List QEnt} {m : List (Int × Value)} {l : List Nat} (h : QInv p A m) (hl : ∀ s k, QHas A s k → s ∈ l) : A.length ≤ l.length := by
 have hn : (A.map (·.item)).Nodup := by
  rw [List.Nodup, List.pairwise_iff_getElem]
  intro i j hi hj hij he
  simp only [List.length_map] at hi hj
  simp only [List.getElem_map] at he
  have := h.m.one h.q.nd (List.getElem_mem hi) (List.getElem_mem hj) he
  have := h.q.nd.uniq hi hj (by rw [nth_eq hi, nth_eq hj, this])
  omega
 have := List.Nodup.length_le_of_subset hn (l₂ := l) fun s hs => by
  obtain ⟨x, hx, rfl⟩ := List.mem_map.1 hs
  exact hl x.item x.key ⟨x, hx, rfl, rfl⟩
 simpa using this
structure CoM (t : Tsk) (l : List Nat) (Lo : List (Nat × Int)) (p : Pl) (A : List QEnt) (m : List (Int × Value)) : Prop where
 i : CoI t l (wF Lo) (QHas A)
 q : QInv p A m
abbrev muW (l : List Nat) (Lo : List (Nat × Int)) (A : List QEnt) : Nat := sumW l (wF Lo) * 3000 + A.length
theorem CoM.len {t : Tsk} {l : List Nat} {Lo : List (Nat × Int)} {p : Pl} {A : List QEnt} {m : List (Int × Value)} (h : CoM t l Lo p A m) : A.length ≤ l.length := h.q.len fun s k hs => (h.i.qq s k hs).1
theorem mu_lt {a b x y mu c : Nat} (h3 : a < b) (h1 : x ≤ y + 1) (hc : 1 ≤ c) (h2 : b * c + y < mu) : a * c + x < mu := by
 have h4 : (a + 1) * c ≤ b * c := Nat.mul_le_mul_right _ h3
 rw [Nat.succ_mul] at h4
 omega
structure CoL (t : Tsk) (l : List Nat) (W : List (Nat × Int)) (s : Nat) (d : Int) (mu : Nat) (i : Nat) (Lo : List (Nat × Int)) (p : Pl) (A : List QEnt) (m : List (Int × Value)) : Prop where
 j : CoJ t l s d (fun y e => ∃ j : Nat, j < i ∧ nth W j = (y, e)) (wF Lo) (QHas A)
 q : QInv p A m
 u : muW l Lo A < mu
theorem CoL.len {t : Tsk} {l : List Nat} {W : List (Nat × Int)} {s : Nat} {d : Int} {mu i : Nat} {Lo : List (Nat × Int)} {p : Pl} {A : List QEnt} {m : List (Int × Value)} (h : CoL t l W s d mu i Lo p A m) : A.length ≤ l.length := h.q.len fun s k hs => (h.j.qq s k hs).1
theorem CoM.take {t : Tsk} {l : List Nat} {Lo : List (Nat × Int)} {p p' : Pl} {A A' : List QEnt} {m m' : List (Int × Value)} {x : QEnt} {W : List (Nat × Int)} (h : CoM t l Lo p A m) (hi : QInv p' A' m') (hd : QDel A x A') : CoL t l W x.item x.key (muW l Lo A) 0 Lo p' A' m' :=
 ⟨(h.i.take hd.2.1 hd.1).wk rfl fun y c ⟨j, hj, _⟩ => absurd hj (Nat.not_lt_zero j), hi, by have := hd.2.2; unfold muW; omega⟩
section
variable {t : Tsk} {l : List Nat} {W : List (Nat × Int)} {s : Nat} {d : Int} {mu i : Nat} {Lo : List (Nat × Int)} {p p' : Pl} {A A' : List QEnt} {m m' : List (Int × Value)}
theorem CoL.r1 {x : Nat} {c : Int} (hx : nth W i = (x, c)) : ∀ y e, (∃ j : Nat, j < i + 1 ∧ nth W j = (y, e)) → (∃ j : Nat, j < i ∧ nth W j = (y, e)) ∨ (y = x ∧ e = c) := fun y e ⟨j, hj, he⟩ => by
 by_cases hji : j = i
 ·subst hji; rw [hx] at he; cases he; exact .inr ⟨rfl, rfl⟩
 ·exact .inl ⟨j, by omega, he⟩
theorem CoL.skip (h : CoL t l W s d mu i Lo p A m) (hle : wF Lo (nth W i).1 ≤ d + (nth W i).2) : CoL t l W s d mu (i + 1) Lo p A m :=
 ⟨(h.j.skip hle).wk rfl (CoL.r1 rfl), h.q, h.u⟩
theorem CoL.set (h : CoL t l W s d mu i Lo p A m) (hx : (nth W i).1 ∈ l) (hst : StW t (nth W i).1 s (nth W i).2) (hc : 0 ≤ (nth W i).2) (hlt : d + (nth W i).2 < wF Lo (nth W i).1) (hi : QInv p' A' m') (hu : QUpd A (nth W i).1 (d + (nth W i).2) A') : CoL t l W s d mu (i + 1) (wUp Lo (nth W i).1 (d + (nth W i).2)) p' A' m' := by
 have e : wF (wUp Lo (nth W i).1 (d + (nth W i).2)) = fun y => if y = (nth W i).1 then d + (nth W i).2 else wF Lo y := funext fun y => wF_up
 refine ⟨(h.j.set hx hst hc hlt hu.1).wk e (CoL.r1 rfl), hi, ?_⟩
 have h1 := hu.2
 have h2 := h.u
 have hd0 := h.j.sd.2.1
 have h3 : sumW l (wF (wUp Lo (nth W i).1 (d + (nth W i).2))) < sumW l (wF Lo) := by
  rw [e]
  refine sumW_lt (x := (nth W i).1) (fun y _ => ?_) hx (by rw [if_pos rfl]; omega) (by rw [if_pos rfl]; exact hlt)
  split
  ·rename_i e; rw [e]; omega
  ·exact Int.le_refl _
 exact mu_lt h3 h1 (by decide) h2
theorem CoL.fin {L : List BkE} {n : Nat} (h : CoL t l (bkA L s) s d mu i Lo p A m) (hi : i = (bkA L s).length) (hb : BkI t l 0 0 n L) : CoM t l Lo p A m := by
 refine ⟨h.j.fin fun x c hx hst => ?_, h.q⟩
 obtain ⟨j, hj⟩ := List.getElem?_of_mem ((hb.m s x c).2 (.inl ⟨hx, hst⟩))
 have hlt := (List.getElem?_eq_some_iff.1 hj).1
 exact ⟨j, by omega, by rw [nth_eq hlt]; exact (List.getElem?_eq_some_iff.1 hj).2⟩
theorem BkI.arc {L : List BkE} {n : Nat} (hb : BkI t l 0 0 n L) (hi : i < (bkA L s).length) : (nth (bkA L s) i).1 ∈ l ∧ StW t (nth (bkA L s) i).1 s (nth (bkA L s) i).2 := by
 have := (hb.m s (nth (bkA L s) i).1 (nth (bkA L s) i).2).1 (nth_mem (by omega) (by omega))
 rcases this with h | ⟨_, j, hj, _⟩
 ·exact h
 ·omega
end
structure CoX where
 k : Nat
 B : List BkE
 o : List (Nat × Int)
 p : Pl
 A : List QEnt
 m : List (Int × Value)
 tm : Int
theorem BkI.nx {t : Tsk} {l : List Nat} {i : Nat} {L : List BkE} (hi : i < l.length) (ho : (opL t (nth l i)).length ≤ 40) (h : BkI t (l.take i) (nth l i) (opL t (nth l i)).length (i * 40 + (opL t (nth l i)).length) L) : BkI t (l.take (i + 1)) 0 0 ((i + 1) * 40) L := by
 rw [List.take_succ_eq_append_getElem hi, ← nth_eq hi]
 exact h.done.wk (by omega)
section
variable {P : Program} {N : Nat} {w0 : World} {O0 : Nat → Nat} {Q : Post} {e : Env} {M : Mem} {c : Code} {ds : List Deferred}
theorem TrD.eqV (n : Nat) {v v' : Value} (hn : look e n = some (.d (.v v))) (he : v = v') (h : TrD P N w0 O0 ds ((n, .d (.v v')) :: e) M c Q) : TrD P N w0 O0 ds e M c Q := by
 subst he
 exact fun O H a w hst => h O H a w ⟨hst.df, hst.sz, hst.bl, hst.lab, fun m s hs => by
  rcases look_cons hs with ⟨rfl, rfl⟩ | ⟨_, hs⟩
  ·exact hst.slots _ _ hn
  ·exact hst.slots m s hs, hst.mem⟩
end
theorem StW.cost {t : Tsk} (hV : TskV t) {s s' : Nat} {c : Int} (h : StW t s s' c) : 0 ≤ c ∧ c ≤ 100 := by
 obtain ⟨i, hi, _, _, rfl⟩ := h
 exact (hV.op i hi).2
end Go.Eng
end
