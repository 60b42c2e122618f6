/- Part 4. -/
import Derived.Test.YthjmgcopfipabaaGreatE3
set_option linter.unusedSimpArgs false
set_option linter.unnecessarySimpa false
set_option linter.unusedVariables false
set_option linter.unusedSectionVars false
section
namespace Go.Eng
section
variable {t : Tsk} {s cs u v : List Int} {z b : List Bool}
theorem nF_eq (t : Tsk) : nF t = t.facts.toNat + 1 := rfl
theorem bfA_p {n : Nat} {add : List Int} (ha : ∀ p, p ∈ add → 0 ≤ p ∧ p < n) {x : List Bool × Bool} (hl : x.1.length = n) : ∀ {j : Nat}, j ≤ add.length → (bfA add z x j).1.length = n ∧ PsP n x (bfA add z x j)
 | 0, _ => ⟨hl, .refl⟩
 | j + 1, hj => by
  obtain ⟨h1, h2⟩ := bfA_p ha hl (j := j) (by omega)
  simp only [bfA]
  split
  ·rename_i hc
   have hp := ha _ (nth_mem (l := add) (n := (j : Int)) (by omega) (by omega))
   exact ⟨by simpa using h1, h2.trans (.set h1 hp.1 hp.2 hc.1)⟩
  ·exact ⟨h1, h2⟩
theorem bf_add (hV : TskV t) {i : Nat} (hi : i < t.ops.length) : ∀ p, p ∈ (nth t.ops i).add → 0 ≤ p ∧ p < nF t := fun p hp => by
 have := setP_mem (hV.op i hi).1.2.1 hp
 have := hV.facts
 rw [nF_eq]; omega
theorem bfO_p (hV : TskV t) {x : List Bool × Bool} {i : Nat} (hi : i < t.ops.length) (hl : x.1.length = nF t) : (bfO t u z x i).1.length = nF t ∧ PsP (nF t) x (bfO t u z x i) := by
 unfold bfO
 split
 ·exact ⟨hl, .refl⟩
 ·exact bfA_p (bf_add hV hi) hl (Nat.le_refl _)
theorem bfP_p (hV : TskV t) (hl : b.length = nF t) : ∀ {i : Nat}, i ≤ t.ops.length → (bfP t u z b i).1.length = nF t ∧ PsP (nF t) (b, false) (bfP t u z b i)
 | 0, _ => ⟨hl, .refl⟩
 | i + 1, hi => by
  obtain ⟨h1, h2⟩ := bfP_p hV hl (i := i) (by omega)
  have h3 := bfO_p (u := u) (z := z) hV (x := bfP t u z b i) (i := i) (by omega) h1
  exact ⟨h3.1, h2.trans h3.2⟩
theorem bfA_flag {add : List Int} {x : List Bool × Bool} : ∀ {j : Nat}, (bfA add z x j).2 = false → bfA add z x j = x ∧ ∀ k : Nat, k < j → ¬ (nth x.1 (nth add k) = false ∧ nth z (nth add k) = false)
 | 0, _ => ⟨rfl, fun k hk => by omega⟩
 | j + 1, h => by
  simp only [bfA] at h ⊢
  split at h
  ·simp at h
  ·rename_i hn
   obtain ⟨h1, h2⟩ := bfA_flag h
   rw [if_neg hn]
   refine ⟨h1, fun k hk => ?_⟩
   by_cases hkj : k = j
   ·subst hkj; rw [h1] at hn; exact hn
   ·exact h2 k (by omega)
theorem bfP_flag : ∀ {i : Nat}, (bfP t u z b i).2 = false → bfP t u z b i = (b, false) ∧ ∀ k : Nat, k < i → nth b (hdF t.facts u (nth t.ops k).pre) = true → ∀ p, p ∈ (nth t.ops k).add → nth z p = false → nth b p = true
 | 0, _ => ⟨rfl, fun k hk => by omega⟩
 | i + 1, h => by
  have h : (bfO t u z (bfP t u z b i) i).2 = false := h
  show bfO t u z (bfP t u z b i) i = _ ∧ _
  unfold bfO at h ⊢
  split at h
  ·rename_i hc
   obtain ⟨h1, h2⟩ := bfP_flag h
   rw [if_pos hc]
   refine ⟨h1, fun k hk hb p hp hz => ?_⟩
   by_cases hki : k = i
   ·subst hki
    rw [h1] at hc
    rw [hb] at hc; cases hc
   ·exact h2 k (by omega) hb p hp hz
  ·rename_i hc
   obtain ⟨h3, h4⟩ := bfA_flag h
   have h5 : (bfP t u z b i).2 = false := by rw [← h3]; exact h
   obtain ⟨h1, h2⟩ := bfP_flag h5
   rw [if_neg hc]
   refine ⟨h3.trans h1, fun k hk hb p hp hz => ?_⟩
   by_cases hki : k = i
   ·subst hki
    obtain ⟨j, hj, rfl⟩ := List.getElem_of_mem hp
    have := h4 j hj
    rw [h1, nth_eq hj] at this
    cases hbp : nth b (nth t.ops k).add[j] with
    | true => rfl
    | false => exact absurd ⟨hbp, hz⟩ this
   ·exact h2 k (by omega) hb p hp hz
def bfI (t : Tsk) (s : List Int) : Nat → List Bool
 | 0 => (List.replicate (nF t) false).set t.facts.toNat true
 | k + 1 => (bfI t s k).set (nth s k).toNat true
def bf0 (t : Tsk) (s : List Int) : List Bool := bfI t s s.length
theorem bfI_at (hV : TskV t) (hs : ∀ p, p ∈ s → 0 ≤ p ∧ p < t.facts) : ∀ {k : Nat}, k ≤ s.length → (bfI t s k).length = nF t ∧ ∀ q : Int, 0 ≤ q → q ≤ t.facts → nth (bfI t s k) q = decide (q = t.facts ∨ q ∈ s.take k)
 | 0, _ => by
  have hf := hV.facts
  refine ⟨by simp [bfI], fun q q0 q1 => ?_⟩
  unfold bfI
  rw [nth_sB hf.1 (by rw [List.length_replicate, nF_eq]; omega) q0 (by rw [List.length_replicate, nF_eq]; omega)]
  by_cases h : q = t.facts
  ·rw [if_pos h, decide_eq_true (.inl h)]
  ·rw [if_neg h, decide_eq_false (by simp [h])]
   obtain ⟨k, rfl⟩ := Int.eq_ofNat_of_zero_le q0
   rw [nth_eq (by rw [List.length_replicate, nF_eq]; omega), List.getElem_replicate]
 | k + 1, hk => by
  obtain ⟨h1, h2⟩ := bfI_at hV hs (k := k) (by omega)
  have hf := hV.facts
  have hp := hs (nth s k) (nth_mem (by omega) (by omega))
  refine ⟨by simpa [bfI] using h1, fun q q0 q1 => ?_⟩
  show nth ((bfI t s k).set (nth s k).toNat true) q = _
  rw [nth_sB hp.1 (by rw [h1, nF_eq]; omega) q0 (by rw [h1, nF_eq]; omega), h2 q q0 q1, tk_s (by omega)]
  by_cases h : q = nth s k
  ·rw [if_pos h]; symm; exact decide_eq_true (.inr (by rw [h]; simp))
  ·rw [if_neg h]; congr 1; simp [h]
theorem bf0_at (hV : TskV t) (hs : ∀ p, p ∈ s → 0 ≤ p ∧ p < t.facts) : (bf0 t s).length = nF t ∧ ∀ q : Int, 0 ≤ q → q ≤ t.facts → nth (bf0 t s) q = decide (q = t.facts ∨ q ∈ s) := by
 have h := bfI_at hV hs (Nat.le_refl _)
 rw [List.take_length] at h
 exact h
noncomputable def bfW (t : Tsk) (s u : List Int) (z : List Bool) : List Bool := psW (fun b => bfP t u z b t.ops.length) (bf0 t s)
theorem bfW_ok (hV : TskV t) (hs : ∀ p, p ∈ s → 0 ≤ p ∧ p < t.facts) : PsR (fun b => bfP t u z b t.ops.length) (bf0 t s) (bfW t s u z) := psW_ok (n := nF t) (fun b hb => (bfP_p hV hb (Nat.le_refl _)).2) (bf0_at hV hs).1
structure BfP (t : Tsk) (s u : List Int) (z b : List Bool) : Prop where
 l : b.length = nF t
 n : nth b t.facts = true
 st : ∀ p, p ∈ s → nth b p = true
 c : ∀ i : Nat, i < t.ops.length → nth b (hdF t.facts u (nth t.ops i).pre) = true → ∀ p, p ∈ (nth t.ops i).add → nth z p = false → nth b p = true
 i : (∀ q : Int, 0 ≤ q → q ≤ t.facts → q = t.facts ∨ q ∈ s → nth z q = false) → ∀ q : Int, 0 ≤ q → q ≤ t.facts → nth b q = true → nth z q = false
theorem bf_p (hV : TskV t) (hs : ∀ p, p ∈ s → 0 ≤ p ∧ p < t.facts) : BfP t s u z (bfW t s u z) := by
 have hr := bfW_ok (u := u) (z := z) hV hs
 have hf := hV.facts
 obtain ⟨hl0, ha0⟩ := bf0_at hV hs
 have hfix := hr.fix (fun b h => (bfP_flag h).1)
 have hlen : (bfW t s u z).length = nF t := hr.keep (I := fun b => b.length = nF t) (fun b hb => (bfP_p hV hb (Nat.le_refl _)).1) hl0
 have hkeep : ∀ J : List Bool → Prop, (∀ y (p : Int), J y → y.length = nF t → 0 ≤ p → p < nF t → nth z p = false → J (y.set (Int.toNat p) true)) → J (bf0 t s) → J (bfW t s u z) := fun J hJ h0 => by
  have key := hr.keep (I := fun b => b.length = nF t ∧ J b) (fun b hb => ?_) ⟨hl0, h0⟩
  ·exact key.2
  ·have : ∀ i : Nat, i ≤ t.ops.length → (bfP t u z b i).1.length = nF t ∧ J (bfP t u z b i).1 := fun i => by
    induction i with
    | zero => exact fun _ => hb
    | succ i ih =>
     intro hi
     obtain ⟨g1, g2⟩ := ih (by omega)
     refine ⟨(bfP_p hV hb.1 hi).1, ?_⟩
     show J (bfO t u z (bfP t u z b i) i).1
     unfold bfO
     split
     ·exact g2
     ·have : ∀ j : Nat, j ≤ (nth t.ops i).add.length → (bfA (nth t.ops i).add z (bfP t u z b i) j).1.length = nF t ∧ J (bfA (nth t.ops i).add z (bfP t u z b i) j).1 := fun j => by
       induction j with
       | zero => exact fun _ => ⟨g1, g2⟩
       | succ j ihj =>
        intro hj
        obtain ⟨k1, k2⟩ := ihj (by omega)
        simp only [bfA]
        split
        ·rename_i hz
         have hp := bf_add hV (i := i) (by omega) _ (nth_mem (l := (nth t.ops i).add) (n := (j : Int)) (by omega) (by omega))
         exact ⟨by simpa using k1, hJ _ _ k2 k1 hp.1 hp.2 hz.2⟩
        ·exact ⟨k1, k2⟩
      exact (this _ (Nat.le_refl _)).2
   exact this _ (Nat.le_refl _)
 have hmono : ∀ q : Int, 0 ≤ q → q ≤ t.facts → nth (bf0 t s) q = true → nth (bfW t s u z) q = true := fun q q0 q1 hq => hkeep (fun y => nth y q = true) (fun y (p : Int) hy hl p0 p1 _ => by
  rw [nth_sB p0 (by omega) q0 (by rw [hl, nF_eq]; omega)]
  split
  ·rfl
  ·exact hy) hq
 refine ⟨hlen, hmono _ hf.1 (Int.le_refl _) (by rw [ha0 _ hf.1 (Int.le_refl _)]; simp), fun p hp => ?_, ?_, fun hz => ?_⟩
 ·have := hs p hp
  exact hmono p this.1 (by omega) (by rw [ha0 p this.1 (by omega)]; simp [hp])
 ·exact (bfP_flag (t := t) (u := u) (z := z) (b := bfW t s u z) (i := t.ops.length) (by rw [hfix])).2
 ·refine hkeep (fun y => ∀ q : Int, 0 ≤ q → q ≤ t.facts → nth y q = true → nth z q = false) (fun y p hy hl p0 p1 hzp q q0 q1 hq => ?_) (fun q q0 q1 hq => ?_)
  ·rw [nth_sB p0 (by omega) q0 (by rw [hl, nF_eq]; omega)] at hq
   split at hq
   ·rename_i e; rw [e]; exact hzp
   ·exact hy q q0 q1 hq
  ·rw [ha0 q q0 q1] at hq
   exact hz q q0 q1 (of_decide_eq_true hq)
def inCut (t : Tsk) (u : List Int) (z b : List Bool) (i : Nat) : Prop := nth b (hdF t.facts u (nth t.ops i).pre) = true ∧ ∃ p, p ∈ (nth t.ops i).add ∧ nth z p = true
instance {i : Nat} : Decidable (inCut t u z b i) := by unfold inCut; exact inferInstance
def cutT (t : Tsk) (cs u : List Int) (z b : List Bool) : Nat → List Int × Int
 | 0 => ([], 1000000000)
 | i + 1 => if inCut t u z b i then ((cutT t cs u z b i).1 ++ [(i : Int)], min (cutT t cs u z b i).2 (nth cs i)) else cutT t cs u z b i
def cutF (t : Tsk) (cs u : List Int) (z b : List Bool) : List Int × Int := cutT t cs u z b t.ops.length
theorem cutT_mem : ∀ {k : Nat} {x : Int}, x ∈ (cutT t cs u z b k).1 ↔ ∃ i : Nat, i < k ∧ inCut t u z b i ∧ x = i
 | 0, x => by simp [cutT]
 | k + 1, x => by
  have ih := cutT_mem (k := k) (x := x)
  simp only [cutT]
  split
  ·rename_i hc
   rw [List.mem_append, List.mem_singleton, ih]
   constructor
   ·rintro (⟨i, h1, h2⟩ | rfl)
    ·exact ⟨i, by omega, h2⟩
    ·exact ⟨k, by omega, hc, rfl⟩
   ·rintro ⟨i, h1, h2, h3⟩
    by_cases hik : i = k
    ·subst hik; exact .inr h3
    ·exact .inl ⟨i, by omega, h2, h3⟩
  ·rename_i hc
   rw [ih]
   constructor
   ·rintro ⟨i, h1, h2⟩; exact ⟨i, by omega, h2⟩
   ·rintro ⟨i, h1, h2, h3⟩
    by_cases hik : i = k
    ·subst hik; exact absurd h2 hc
    ·exact ⟨i, by omega, h2, h3⟩
theorem cutT_lt : ∀ {k : Nat}, (cutT t cs u z b k).1.Pairwise (· < ·)
 | 0 => by simp [cutT]
 | k + 1 => by
  have ih := cutT_lt (k := k)
  simp only [cutT]
  split
  ·rw [List.pairwise_append]
   refine ⟨ih, by simp, fun x hx y hy => ?_⟩
   obtain ⟨i, h1, _, rfl⟩ := cutT_mem.1 hx
   rw [List.mem_singleton] at hy
   omega
  ·exact ih
theorem cutT_c : ∀ {k : Nat}, ((cutT t cs u z b k).2 = 1000000000 ∨ ∃ i : Nat, i < k ∧ inCut t u z b i ∧ (cutT t cs u z b k).2 = nth cs i) ∧ (cutT t cs u z b k).2 ≤ 1000000000 ∧ ∀ i : Nat, i < k → inCut t u z b i → (cutT t cs u z b k).2 ≤ nth cs i
 | 0 => ⟨.inl rfl, Int.le_refl _, fun i hi => by omega⟩
 | k + 1 => by
  obtain ⟨h1, h2, h3⟩ := cutT_c (k := k)
  simp only [cutT]
  split
  ·rename_i hc
   refine ⟨?_, by show min _ _ ≤ _; omega, fun i hi hi2 => ?_⟩
   ·show min _ _ = _ ∨ ∃ i, _ ∧ _ ∧ min _ _ = _
    by_cases hle : (cutT t cs u z b k).2 ≤ nth cs k
    ·rw [Int.min_eq_left hle]
     rcases h1 with h1 | ⟨i, a1, a2, a3⟩
     ·exact .inl h1
     ·exact .inr ⟨i, by omega, a2, a3⟩
    ·rw [Int.min_eq_right (by omega)]
     exact .inr ⟨k, by omega, hc, rfl⟩
   ·show min _ _ ≤ _
    by_cases hik : i = k
    ·subst hik; omega
    ·have := h3 i (by omega) hi2; omega
  ·rename_i hc
   refine ⟨?_, h2, fun i hi hi2 => ?_⟩
   ·rcases h1 with h1 | ⟨i, a1, a2, a3⟩
    ·exact .inl h1
    ·exact .inr ⟨i, by omega, a2, a3⟩
   ·by_cases hik : i = k
    ·subst hik; exact absurd hi2 hc
    ·exact h3 i (by omega) hi2
end
end Go.Eng
end

section
namespace Go.Proofs.YthjmgcopfipabaaGreat
open Go.Eng
set_option maxRecDepth 10000
set_option maxHeartbeats 1000000
theorem relaxed_Plus_does (a b : Int) (ha : 0 ≤ a ∧ a ≤ 1000000000) (hb : 0 ≤ b ∧ b ≤ 1000000000) : Does Tryz.prog false 59 [I (a), I (b)] (I (plusI a b)) := by
 refine Does.of_body Tryz.func59 rfl rfl (by simp) Tryz.call59 (fun w0 O0 => ?_); refine .g <| .r <| .a ?_; refine .sq <| .g <| .g <| .r <| .m ?_; refine .x (.b beql) ?_; refine .m ?_; refine .split (n := 7) rfl (fun c7 => ?_) (fun c7 => ?_)
 ·refine .hf c7 ?_; refine .hf c7 ?_; refine .x (OpSem.pickT rfl rfl c7 rfl) ?_; refine .sq <| .condT rfl rfl ?_; refine .g <| .r <| .a ?_; exact .sq <| .t <| .t <| .ret rfl (.tmp rfl <| .nil) rfl (Le.i (plusI_1 (.inl (by simpa using c7))))
 ·refine .ht c7 ?_; refine .m ?_; refine .ht c7 ?_; refine .x (.b beql) ?_; refine .x (OpSem.pickF rfl rfl c7 rfl) ?_; refine .sq <| .cond rfl (fun c10 => ?_) (fun c10 => ?_)
  ·refine .g <| .r <| .a ?_; exact .sq <| .t <| .t <| .ret rfl (.tmp rfl <| .nil) rfl (Le.i (plusI_1 (.inr (by simpa using c10))))
  ·refine .p <| .z <| .mm ?_; refine .x .ad ?_; refine .x (OpSem.min2 rfl rfl rfl) ?_; refine .a ?_; exact .sq <| .t <| .ret rfl (.tmp rfl <| .nil) rfl (Le.i (plusI_0 (by simp at c7 c10; omega)))
theorem relaxed_Greatest_does (v f : List Int) (hf : ∀ k : Nat, k < f.length → 0 ≤ nth f k ∧ nth f k < v.length) : Does Tryz.prog false 20 [.d (ints v), .d (ints f)] (I (gmF v f)) := by
 refine Does.of_body Tryz.func20 rfl rfl (by simp) Tryz.call20 (fun w0 O0 => ?_); refine .le 0 fun len0 => ?_; refine .le 1 fun len1 => ?_; refine .g <| .r <| .a ?_; refine .z <| .a ?_; refine .sq <| .g <| .g <| .r <| .m ?_; refine .x (.n es22) ?_; refine .m ?_; refine .sq <| .k <| .loop (X := Nat) (fun k => k ≤ f.length) (fun k => [(0, .d (ints v)), (5, I (gmT v f k)), (8, .d (ints f)), (9, I (f.length)), (10, I (k))]) (fun k => []) (fun k => f.length - k) 0 (by omega) ?_ ?_
 ·exact .sl <| .slot rfl (Le.of_eq rfl) <| .p2 <| .slot rfl (Le.of_eq (by simp)) <| .nil
 ·rintro k hkl
  refine .g <| .r <| .x (.b blss) ?_; refine .sq <| .g <| .cond rfl (fun c11 => ?_) (fun c11 => ?_)
  ·have hk : k < f.length := by simpa using c11
   have hfk := hf k hk
   refine .p <| .g <| .g <| .k <| .g <| .r <| .x (.i es22) ?_; refine .x (.l1 vs3) ?_; refine .a ?_; refine .y <| .mm ?_; refine .m ?_; refine .x (.i es22) ?_; refine .x (.l1 vs3) ?_; refine .x (OpSem.max2 rfl rfl rfl) ?_; refine .a ?_; refine .n <| .n <| .y <| .x .ad ?_; refine .m ?_; refine .n <| .again (k + 1) (by omega) ?_ (by omega); exact .sl <| .slot rfl (Le.of_eq rfl) <| .p2 <| .slot rfl (Le.of_eq (by simp)) <| .nil
  ·have hk : k = f.length := by simp at c11; omega
   refine .u <| .u <| .u <| .b <| .z <| .m ?_; refine .a ?_; exact .sq <| .t <| .ret rfl (.tmp rfl <| .nil) rfl (Le.i (by subst hk; rfl))
theorem relaxed_Sum_does (n : Int) (v f : List Int) (hv : VlP n v) (hf : ∀ k : Nat, k < f.length → 0 ≤ nth f k ∧ nth f k < n) : Does Tryz.prog false 32 [.d (ints v), .d (ints f)] (I (suF v f)) := by
 have hl := hv.l
 refine Does.of_body Tryz.func32 rfl rfl (by simp) Tryz.call32 (fun w0 O0 => ?_); refine .le 0 fun len0 => ?_; refine .le 1 fun len1 => ?_; refine .g <| .r <| .a ?_; refine .z <| .a ?_; refine .sq <| .g <| .g <| .r <| .m ?_; refine .x (.n es22) ?_; refine .m ?_; refine .sq <| .k <| .loop (X := Nat) (fun k => k ≤ f.length) (fun k => [(0, .d (ints v)), (5, I (suT v f k)), (8, .d (ints f)), (9, I (f.length)), (10, I (k))]) (fun k => []) (fun k => f.length - k) 0 (by omega) ?_ ?_
 ·exact .sl <| .slot rfl (Le.of_eq rfl) <| .p2 <| .slot rfl (Le.of_eq (by simp)) <| .nil
 ·rintro k hkl
  refine .g <| .r <| .x (.b blss) ?_; refine .sq <| .g <| .cond rfl (fun c11 => ?_) (fun c11 => ?_)
  ·have hk : k < f.length := by simpa using c11
   have hfk := hf k hk
   refine .p <| .g <| .g <| .k <| .g <| .r <| .x (.i es22) ?_; refine .x (.l1 vs3) ?_; refine .a ?_; refine .y <| .mm ?_; refine .m ?_; refine .x (.i es22) ?_; refine .x (.l1 vs3) ?_; refine .x (OpSem.call0 (relaxed_Plus_does _ _ (suT_in hv hf hkl) (hv.r _ hfk.1 hfk.2)) rfl rfl rfl rfl (Les.refl _)) ?_; refine .a ?_; refine .n <| .n <| .y <| .x .ad ?_; refine .m ?_; refine .n <| .again (k + 1) (by omega) ?_ (by omega); exact .sl <| .slot rfl (Le.of_eq rfl) <| .p2 <| .slot rfl (Le.of_eq (by simp)) <| .nil
  ·have hk : k = f.length := by simp at c11; omega
   refine .u <| .u <| .u <| .b <| .z <| .m ?_; refine .a ?_; exact .sq <| .t <| .ret rfl (.tmp rfl <| .nil) rfl (Le.i (by subst hk; rfl))
theorem relaxed_Costs_does (t : Tsk) (hol : t.ops.length ≤ 1000000) : DoesO Tryz.prog 45 [tskS t] 1 3 (((cssF t).map fun n => [D.v (.int .i64 n)])) := by
 refine DoesO.of_body Tryz.func45 rfl rfl (by simp) Tryz.call45 (fun w0 O0 => ?_); refine .lg 0 1 fun len0_1 => ?_; refine .lg 0 2 fun len0_2 => ?_; refine .lg 0 3 fun len0_3 => ?_; refine .g <| .r <| .bx 1 ?_; refine .a ?_; refine .z <| .a ?_; refine .sq <| .g <| .g <| .ownNil (n := 3) 3 1 3 rfl ?_; refine .r <| .x (.f fo25_3) ?_; refine .x (.l vs23) ?_; refine .x (.n es23) ?_; refine .m ?_; refine .sq <| .k <| .loop (X := Nat) (fun k => k ≤ t.ops.length) (fun k => [(3, .o 3), (7, .d (sopsD t.ops)), (8, I (t.ops.length)), (9, I (k))]) (fun k => [(3, .own 1 3 ((cssT t k).map fun n => [D.v (.int .i64 n)]))]) (fun k => t.ops.length - k) 0 (by omega) ?_ ?_
 ·exact .p3 <| .slot rfl (Le.of_eq (by simp)) <| .memEq rfl (by simp [cssT]) <| .nil
 ·rintro k hkl
  refine .g <| .r <| .x (.b blss) ?_; refine .sq <| .g <| .cond rfl (fun c10 => ?_) (fun c10 => ?_)
  ·have hk : k < t.ops.length := by simpa using c10
   have hcl := cssT_len (t := t) (k := k)
   refine .p <| .g <| .g <| .k <| .g <| .r <| .x (.i es23) ?_; refine .x (.lN vs41) ?_; refine .al 5 zc41 ?_; refine .sb vs41 ?_; refine .y <| .m ?_; refine .x (.f fo41_3) ?_; refine .x (.l vs3) ?_; refine .x (.bs es22 ze22) ?_; refine .ap es22 el22 zc3 by3 ?_; refine .a ?_; refine .n <| .n <| .y <| .x .ad ?_; refine .m ?_; refine .n <| .again (k + 1) (by omega) ?_ (by omega); exact .p3 <| .slot rfl (Le.of_eq (by simp)) <| .memEq rfl (by rw [cssT_s]; simp) <| .nil
  ·have hk : k = t.ops.length := by simp at c10; omega
   subst hk
   refine .u <| .u <| .u <| .b <| .z <| .m ?_; refine .a ?_; exact .sq <| .t <| .retO2 rfl rfl rfl (by simp) (rfl)
theorem relaxed_Values_does (t : Tsk) (s cs : List Int) (fn : Nat) (cmb : Cmb) (w : List Int) (hV : TskV t) (hc : CsV t cs) (hm : CmbP t.facts cmb) (hs : ∀ p, p ∈ s → 0 ≤ p ∧ p < t.facts) (hf : ∀ v f, VlP t.facts v → SetP t.facts f → Does Tryz.prog false fn [.d (ints v), .d (ints f)] (I (cmb v f))) (hr : VlR t cs cmb (vl0 t s) w) : DoesO Tryz.prog 44 [tskS t, .d (ints s), .d (ints cs), .f fn [] []] 1 3 ((w.map fun n => [D.v (.int .i64 n)])) := by
 have hf0 := hV.facts
 refine DoesO.of_body Tryz.func44 rfl rfl (by simp) Tryz.call44 (fun w0 O0 => ?_); refine .lg 0 1 fun len0_1 => ?_; refine .lg 0 2 fun len0_2 => ?_; refine .lg 0 3 fun len0_3 => ?_; refine .le 1 fun len1 => ?_; refine .le 2 fun len2 => ?_; refine .g <| .r <| .bx 4 ?_; refine .a ?_; refine .z <| .x (.f fo25_0) ?_; refine .x (.l vs3) ?_; refine .mk 21 es22 ze22 bye22 ?_; refine .a ?_; refine .sq <| .g <| .g <| .r <| .m ?_; refine .x (OpSem.leno rfl rfl rfl es22) ?_; refine .m ?_; refine .sq <| .k <| .loop (X := Nat) (fun k => k ≤ t.facts.toNat) (fun k => [(1, .d (ints s)), (2, .d (ints cs)), (3, .f fn [] []), (4, .r 4 0), (9, .o 21), (23, I (t.facts)), (24, I (k))]) (fun k => [(21, .own 1 3 ((inT t.facts.toNat k).map fun n => [D.v (.int .i64 n)])), (4, .box [I (t.facts), .d (ints t.ini), .d (ints t.goal), .d (sopsD t.ops)])]) (fun k => t.facts.toNat - k) 0 (by omega) ?_ ?_
 ·exact .p5 <| .slot rfl (Le.i (by simp; omega)) <| .slot rfl (Le.of_eq (by simp)) <| .memEq rfl (by rw [el22, inT_0]; first | (simp; done) | (simp; rfl)) <| .mem rfl <| .nil
 ·rintro k hkl
  refine .g <| .r <| .x (.b blss) ?_; refine .sq <| .g <| .cond rfl (fun c25 => ?_) (fun c25 => ?_)
  ·have hk : k < t.facts.toNat := by simp at c25; omega
   refine .p <| .g <| .g <| .k <| .g <| .r <| .m ?_; refine .a ?_; refine .y <| .mm ?_; refine .x (OpSem.idxo rfl rfl rfl rfl es22 (by omega) (by simp [inT_len]; omega)) ?_; refine .storeq rfl rfl rfl rfl rfl rfl rfl vs3 (rows_get (by omega) (by rw [inT_len]; omega)) (by simp) ?_; refine .n <| .n <| .y <| .x .ad ?_; refine .m ?_; refine .n <| .again (k + 1) (by omega) ?_ (by omega); exact .p5 <| .sl <| .slot rfl (Le.of_eq (by simp)) <| .memEq rfl (by rw [← inT_s hk]; exact congrArg (Mo.own 1 3) (rows_set (f := fun n => [D.v (.int .i64 n)]))) <| .mem rfl <| .nil
  ·have hk : k = t.facts.toNat := by simp at c25; omega
   subst hk
   refine .u <| .u <| .u <| .b <| .g <| .g <| .g <| .r <| .m ?_; refine .x (.n es22) ?_; refine .m ?_; refine .sq <| .k <| .loop (X := Nat) (fun k => k ≤ s.length) (fun k => [(2, .d (ints cs)), (3, .f fn [] []), (4, .r 4 0), (9, .o 21), (31, .d (ints s)), (32, I (s.length)), (33, I (k))]) (fun k => [(21, .own 1 3 ((vlI t.facts.toNat s k).map fun n => [D.v (.int .i64 n)])), (4, .box [I (t.facts), .d (ints t.ini), .d (ints t.goal), .d (sopsD t.ops)])]) (fun k => s.length - k) 0 (by omega) ?_ ?_
   ·exact .p5 <| .sl <| .slot rfl (Le.of_eq (by simp)) <| .memEq rfl (by rw [inT_end]; rfl) <| .mem rfl <| .nil
   ·rintro k hkl
    refine .g <| .r <| .x (.b blss) ?_; refine .sq <| .g <| .cond rfl (fun c34 => ?_) (fun c34 => ?_)
    ·have hk : k < s.length := by simpa using c34
     have hsk := hs _ (nth_mem (l := s) (n := k) (by omega) (by omega))
     have hvl := (vlI_v (t := t) hf0.1 hs (k := k) (by omega)).1.l
     refine .p <| .g <| .g <| .k <| .g <| .r <| .x (.i es22) ?_; refine .x (.l1 vs3) ?_; refine .a ?_; refine .y <| .mm ?_; refine .x (OpSem.idxo rfl rfl rfl rfl es22 (by omega) (by simp; omega)) ?_; refine .storeq rfl rfl rfl rfl rfl rfl rfl vs3 (rows_get (by omega) (by omega)) (by simp) ?_; refine .n <| .n <| .y <| .x .ad ?_; refine .m ?_; refine .n <| .again (k + 1) (by omega) ?_ (by omega); exact .p5 <| .sl <| .slot rfl (Le.of_eq (by simp)) <| .memEq rfl (by exact congrArg (Mo.own 1 3) (rows_set (f := fun n => [D.v (.int .i64 n)]))) <| .mem rfl <| .nil
    ·have hk : k = s.length := by simp at c34; omega
     subst hk
     refine .u <| .u <| .u <| .b <| .g <| .g <| .g <| .r <| .a ?_; refine .sq <| .k <| .loop (X := (List Int × Bool)) (fun x => VlP t.facts x.1 ∧ (x.2 = true → VlR t cs cmb x.1 w) ∧ (x.2 = false → x.1 = w)) (fun x => [(2, .d (ints cs)), (3, .f fn [] []), (4, .r 4 0), (9, .o 21), (13, Bo (x.2))]) (fun x => [(21, .own 1 3 (x.1.map fun n => [D.v (.int .i64 n)])), (4, .box [I (t.facts), .d (ints t.ini), .d (ints t.goal), .d (sopsD t.ops)])]) (fun x => vl_mu x) (vl0 t s, true) ⟨vl0_v hf0.1 hs, fun _ => hr, fun h => by cases h⟩ ?_ ?_
     ·exact .p5 <| .memEq rfl rfl <| .mem rfl <| .nil
     ·rintro x ⟨hC, hT, hF⟩
      refine .g <| .g <| .r <| .m ?_; refine .sq <| .cond rfl (fun c41 => ?_) (fun c41 => ?_)
      ·obtain ⟨hI1, hI2⟩ := (hT c41).inv
       refine .p <| .g <| .k <| .g <| .r <| .a ?_; refine .z <| .x (.f fo25_3) ?_; refine .x (.l vs23) ?_; refine .x (.n es23) ?_; refine .m ?_; refine .sq <| .k <| .loop (X := Nat) (fun i => i ≤ t.ops.length) (fun i => [(2, .d (ints cs)), (3, .f fn [] []), (4, .r 4 0), (9, .o 21), (13, Bo ((vlP t cs cmb x.1 i).2)), (43, .d (sopsD t.ops)), (44, I (t.ops.length)), (45, I (i))]) (fun i => [(21, .own 1 3 (((vlP t cs cmb x.1 i).1).map fun n => [D.v (.int .i64 n)])), (4, .box [I (t.facts), .d (ints t.ini), .d (ints t.goal), .d (sopsD t.ops)])]) (fun i => t.ops.length - i) 0 (by omega) ?_ ?_
       ·exact .p3 <| .sl <| .slot rfl (Le.bo rfl) <| .p2 <| .slot rfl (Le.of_eq (by simp)) <| .memEq rfl rfl <| .mem rfl <| .nil
       ·rintro i hil
        refine .g <| .r <| .x (.b blss) ?_; refine .sq <| .g <| .cond rfl (fun c46 => ?_) (fun c46 => ?_)
        ·have hi : i < t.ops.length := by simpa using c46
         have hP := (vlP_dec hV hc hm hC (i := i) (by omega)).1
         have hpre := (hV.op i hi).1.1
         have hadd := set_rng (hV.op i hi).1.2.1
         have hadl := setP_len (hV.op i hi).1.2.1 hf0.2
         have hci := hc.r i hi
         have hcv := hm _ _ hP hpre
         have hcl := hc.l
         have hvv := vlV_in hV hc hm hP hi
         refine .p <| .g <| .g <| .k <| .g <| .r <| .m ?_; refine .x (.i es23) ?_; refine .x (.lN vs41) ?_; refine .al 15 zc41 ?_; refine .a ?_; refine .sb vs41 ?_; refine .sq <| .g <| PC.start [] ?_; refine .mm ?_; refine .x (.f fo41_0) ?_; refine .x (.l vs22) ?_; refine .x (OpSem.call (hf _ _ hP hpre) (.inr rfl) rfl rfl rfl rfl (Les.refl _)) ?_; refine .mm ?_; refine .x (.i es22) ?_; refine .x (.l1 vs3) ?_; refine .d0 mixed ?_; refine .x (OpSem.call0 (relaxed_Plus_does _ _ hcv ⟨hci.1, by omega⟩) rfl rfl rfl rfl (Les.refl _)) ?_; refine .a ?_; refine .z <| .x (.f fo41_1) ?_; refine .x (.l vs22) ?_; refine .x (.n es22) ?_; refine .m ?_; refine .sq <| .k <| .loop (X := Nat) (fun j => j ≤ (nth t.ops i).add.length) (fun j => [(2, .d (ints cs)), (3, .f fn [] []), (4, .r 4 0), (9, .o 21), (13, Bo ((vlA (vlV t cs cmb (vlP t cs cmb x.1 i).1 i) (nth t.ops i).add (vlP t cs cmb x.1 i) j).2)), (16, I ((vlV t cs cmb (vlP t cs cmb x.1 i).1 i))), (43, .d (sopsD t.ops)), (44, I (t.ops.length)), (45, I (i)), (61, .d (ints ((nth t.ops i).add))), (62, I (((nth t.ops i).add).length)), (63, I (j))]) (fun j => [(21, .own 1 3 (((vlA (vlV t cs cmb (vlP t cs cmb x.1 i).1 i) (nth t.ops i).add (vlP t cs cmb x.1 i) j).1).map fun n => [D.v (.int .i64 n)])), (4, .box [I (t.facts), .d (ints t.ini), .d (ints t.goal), .d (sopsD t.ops)])]) (fun j => (nth t.ops i).add.length - j) 0 (by omega) ?_ ?_
         ·exact .p3 <| .sl <| .slot rfl (Le.bo rfl) <| .p5 <| .sl <| .slot rfl (Le.of_eq (by simp)) <| .memEq rfl rfl <| .mem rfl <| .nil
         ·rintro j hjl
          refine .g <| .r <| .x (.b blss) ?_; refine .sq <| .g <| .cond rfl (fun c64 => ?_) (fun c64 => ?_)
          ·have hj : j < (nth t.ops i).add.length := by simpa using c64
           have hAJ := (vlA_dec (fun p hp => setP_mem (hV.op i hi).1.2.1 hp) hvv hP (j := j) (by omega)).1
           have hal := hAJ.l
           have hpj := hadd j hj
           refine .p <| .g <| .g <| .k <| .g <| .r <| .x (.i es22) ?_; refine .x (.l1 vs3) ?_; refine .a ?_; refine .z <| .mm ?_; refine .m ?_; refine .x (OpSem.idxo rfl rfl rfl rfl es22 (by omega) (by simp; omega)) ?_; refine .x (OpSem.loadq rfl rfl rfl vs3 (rows_get (by omega) (by omega)) rfl) ?_; refine .x (.b blss) ?_; refine .sq <| .cond rfl (fun c72 => ?_) (fun c72 => ?_)
           ·have hst : vlA (vlV t cs cmb (vlP t cs cmb x.1 i).1 i) (nth t.ops i).add (vlP t cs cmb x.1 i) (j + 1) = ((vlA (vlV t cs cmb (vlP t cs cmb x.1 i).1 i) (nth t.ops i).add (vlP t cs cmb x.1 i) j).1.set (nth (nth t.ops i).add j).toNat (vlV t cs cmb (vlP t cs cmb x.1 i).1 i), true) := by simp only [vlA]; rw [if_pos (by simpa using c72)]
            refine .r <| .mm ?_; refine .m ?_; refine .x (OpSem.idxo rfl rfl rfl rfl es22 (by omega) (by simp; omega)) ?_; refine .storeq rfl rfl rfl rfl rfl rfl rfl vs3 (rows_get (by omega) (by omega)) (by simp) ?_; refine .a ?_; refine .n <| .n <| .y <| .x .ad ?_; refine .m ?_; refine .n <| .again (j + 1) (by omega) ?_ (by omega); exact .p3 <| .sl <| .slot rfl (Le.bo (by rw [hst])) <| .p5 <| .sl <| .slot rfl (Le.of_eq (by simp)) <| .memEq rfl (by rw [hst]; exact congrArg (Mo.own 1 3) (rows_set (f := fun n => [D.v (.int .i64 n)]))) <| .mem rfl <| .nil
           ·have hst : vlA (vlV t cs cmb (vlP t cs cmb x.1 i).1 i) (nth t.ops i).add (vlP t cs cmb x.1 i) (j + 1) = (vlA (vlV t cs cmb (vlP t cs cmb x.1 i).1 i) (nth t.ops i).add (vlP t cs cmb x.1 i) j) := by simp only [vlA]; rw [if_neg (by simpa using c72)]
            refine .p <| .n <| .y <| .x .ad ?_; refine .m ?_; refine .n <| .again (j + 1) (by omega) ?_ (by omega); exact .p3 <| .sl <| .slot rfl (Le.bo (by rw [hst])) <| .p5 <| .sl <| .slot rfl (Le.of_eq (by simp)) <| .memEq rfl (by rw [hst]) <| .mem rfl <| .nil
          ·have hj : j = (nth t.ops i).add.length := by simp at c64; omega
           subst hj
           refine .u <| .u <| .u <| .b <| .n <| .y <| .x .ad ?_; refine .m ?_; refine .n <| .again (i + 1) (by omega) ?_ (by omega); exact .p3 <| .sl <| .slot rfl (Le.bo rfl) <| .p2 <| .slot rfl (Le.of_eq (by simp)) <| .memEq rfl rfl <| .mem rfl <| .nil
        ·have hi : i = t.ops.length := by simp at c46; omega
         subst hi
         refine .u <| .u <| .u <| .b <| .n <| .again (vlP t cs cmb x.1 t.ops.length) ⟨(vlP_dec hV hc hm hC (Nat.le_refl _)).1, hI1, hI2⟩ ?_ (vl_lt hV hc hm hC c41); exact .p5 <| .memEq rfl rfl <| .mem rfl <| .nil
      ·have hW := hF c41
       refine .u <| .u <| .u <| .b <| .z <| .m ?_; refine .a ?_; exact .sq <| .t <| .retO2 rfl rfl rfl (by simp) (by rw [hW])
theorem strips_StateFault_does (t : Tsk) (s : List Int) : Does Tryz.prog false 21 [tskS t, .d (ints s)] (flt (sttF t s)) := by
 refine Does.of_body Tryz.func21 rfl rfl (by simp) Tryz.call21 (fun w0 O0 => ?_); refine .lg 0 1 fun len0_1 => ?_; refine .lg 0 2 fun len0_2 => ?_; refine .lg 0 3 fun len0_3 => ?_; refine .le 1 fun len1 => ?_; refine .g <| .r <| .bx 2 ?_; refine .al 4 zc28 ?_; refine .sq <| .g <| .g <| .r <| .x (.L vs25) ?_; refine .x (OpSem.call0 (strips_Validate_does t) rfl rfl rfl rfl (Les.refl _)) ?_; refine .al 5 zc28 ?_; refine .sb vs28 ?_; refine .z <| .x (.L vs28) ?_; refine .x (.bd pl28 zc28) ?_; refine .x (OpSem.neS2 rfl rfl rfl io28) ?_; refine .sq <| .cond rfl (fun c10 => ?_) (fun c10 => ?_)
 ·have hne : tskF t ≠ (0, 0) := fun h => by simp [h] at c10
  refine .g <| .r <| .x (.L vs28) ?_; refine .sb vs28 ?_; exact .sq <| .t <| .t <| .ret rfl (.cellN rfl rfl vs28 <| .nil) rfl (Le.flt (sttF_1 hne))
 ·have h0 : tskF t = (0, 0) := pair0 (by simpa using c10)
  refine .p <| .g <| .g <| .g <| .r <| .m ?_; refine .x (.f fo25_0) ?_; refine .x (.l vs3) ?_; refine .x (OpSem.call0 (strips_IsSet_does s t.facts) rfl rfl rfl rfl (Les.refl _)) ?_; refine .x .nt ?_; refine .sq <| .cond rfl (fun c16 => ?_) (fun c16 => ?_)
  ·refine .g <| .r <| .x (.bd pl28 zc28) ?_; refine .sb vs28 ?_; exact .sq <| .t <| .t <| .ret rfl (.cellN rfl rfl vs28 <| .nil) rfl (Le.flt (sttF_2 h0 (by simpa using c16)))
  ·refine .p <| .z <| .x (.bd pl28 zc28) ?_; refine .sb vs28 ?_; exact .sq <| .t <| .ret rfl (.cellN rfl rfl vs28 <| .nil) rfl (Le.flt (sttF_0 h0 (by simpa using c16)))
theorem relaxed_estimate_does (t : Tsk) (s : List Int) (fn : Nat) (cmb : Cmb) (hm : CmbP t.facts cmb) (hf : ∀ v f, VlP t.facts v → SetP t.facts f → Does Tryz.prog false fn [.d (ints v), .d (ints f)] (I (cmb v f))) : Does Tryz.prog false 19 [tskS t, .d (ints s), .f fn [] []] (.t [.d (ints (estV t s cmb)), I (estG t s cmb), flt (sttF t s)]) := by
 refine Does.of_body Tryz.func19 rfl rfl (by simp) Tryz.call19 (fun w0 O0 => ?_); refine .lg 0 1 fun len0_1 => ?_; refine .lg 0 2 fun len0_2 => ?_; refine .lg 0 3 fun len0_3 => ?_; refine .le 1 fun len1 => ?_; refine .g <| .r <| .bx 3 ?_; refine .a ?_; refine .a ?_; refine .al 8 zc28 ?_; refine .sq <| .g <| .g <| .r <| .x (.L vs25) ?_; refine .m ?_; refine .x (OpSem.call0 (strips_StateFault_does t s) rfl rfl rfl rfl (Les.refl _)) ?_; refine .al 9 zc28 ?_; refine .sb vs28 ?_; refine .z <| .x (.L vs28) ?_; refine .x (.bd pl28 zc28) ?_; refine .x (OpSem.neS2 rfl rfl rfl io28) ?_; refine .sq <| .cond rfl (fun c16 => ?_) (fun c16 => ?_)
 ·have hne : sttF t s ≠ (0, 0) := fun h => by simp [h] at c16
  refine .g <| PC.start [] ?_; refine .x (.L vs28) ?_; refine .x (OpSem.move (.inr rfl) rfl) ?_; refine .x (OpSem.move (.inr rfl) rfl) ?_; refine .d0 mixed ?_; refine .sb vs28 ?_; exact .sq <| .t <| .t <| .ret rfl (.tmp rfl <| .tmp rfl <| .cellN rfl rfl vs28 <| .nil) rfl (Le.t (.cons (by rw [est_1 hne]; exact Le.nil 1) <| .cons (Le.i (estG_1 hne).symm) <| .cons (.refl _) <| .nil))
 ·have h0 : sttF t s = (0, 0) := pair0 (by simpa using c16)
  obtain ⟨hV, hS⟩ := sttF_ok h0
  have hs : ∀ p, p ∈ s → 0 ≤ p ∧ p < t.facts := fun p hp => setP_mem hS hp
  have hvv := (vlW_ok hV (css_v hV) hm hs).vv hV (css_v hV) hm (vl0_v hV.facts.1 hs)
  refine .p <| .g <| .g <| PC.start [] ?_; refine .x (.L vs25) ?_; refine .m ?_; refine .x (.L vs25) ?_; refine .x (OpSem.call0 (relaxed_Costs_does t (by have := hV.ops; omega)).fresh rfl rfl rfl rfl (Les.refl _)) ?_; refine .m ?_; refine .d0 mixed ?_; refine .x (OpSem.call0 (relaxed_Values_does t s (cssF t) fn cmb (vlW t s (cssF t) cmb) hV (css_v hV) hm hs hf (vlW_ok hV (css_v hV) hm hs)).fresh rfl rfl rfl rfl (Les.refl _)) ?_; refine .a ?_; refine .z <| .mm ?_; refine .m ?_; refine .x (.f fo25_2) ?_; refine .x (.l vs22) ?_; refine .x (OpSem.call (hf _ _ hvv hV.goal) (.inr rfl) rfl rfl rfl rfl (Les.refl _)) ?_; refine .x (.bd pl28 zc28) ?_; refine .a ?_; refine .a ?_; refine .sb vs28 ?_; exact .sq <| .t <| .ret rfl (.tmp rfl <| .tmp rfl <| .cellN rfl rfl vs28 <| .nil) rfl (Le.t (.cons (by rw [est_0 h0]; exact .refl _) <| .cons (Le.i (estG_0 h0).symm) <| .cons (Le.flt h0.symm) <| .nil))
theorem relaxed_Max_does (t : Tsk) (s : List Int) : Does Tryz.prog false 6 [tskS t, .d (ints s)] (.t [.d (ints (estV t s gmF)), I (estG t s gmF), flt (sttF t s)]) := by
 refine Does.of_body Tryz.func6 rfl rfl (by simp) Tryz.call6 (fun w0 O0 => ?_); refine .lg 0 1 fun len0_1 => ?_; refine .lg 0 2 fun len0_2 => ?_; refine .lg 0 3 fun len0_3 => ?_; refine .le 1 fun len1 => ?_; refine .g <| .r <| .bx 2 ?_; refine .a ?_; refine .a ?_; refine .al 6 zc28 ?_; refine .z <| .x (.L vs25) ?_; refine .m ?_; refine .x (OpSem.call0 (relaxed_estimate_does t s 20 gmF gm_cmb (fun v f hv hf => relaxed_Greatest_does v f fun k hk => by have h1 := set_rng hf k hk; have h2 := hv.l; omega)) rfl rfl rfl rfl (Les.refl _)) ?_; refine .x .xt ?_; refine .x .xt ?_; refine .x .xt ?_; refine .a ?_; refine .a ?_; refine .sb vs28 ?_; exact .sq <| .t <| .ret rfl (.tmp rfl <| .tmp rfl <| .cellN rfl rfl vs28 <| .nil) rfl (.refl _)
theorem relaxed_Add_does (t : Tsk) (s : List Int) : Does Tryz.prog false 10 [tskS t, .d (ints s)] (.t [.d (ints (estV t s suF)), I (estG t s suF), flt (sttF t s)]) := by
 refine Does.of_body Tryz.func10 rfl rfl (by simp) Tryz.call10 (fun w0 O0 => ?_); refine .lg 0 1 fun len0_1 => ?_; refine .lg 0 2 fun len0_2 => ?_; refine .lg 0 3 fun len0_3 => ?_; refine .le 1 fun len1 => ?_; refine .g <| .r <| .bx 2 ?_; refine .a ?_; refine .a ?_; refine .al 6 zc28 ?_; refine .z <| .x (.L vs25) ?_; refine .m ?_; refine .x (OpSem.call0 (relaxed_estimate_does t s 32 suF su_cmb (fun v f hv hf => relaxed_Sum_does t.facts v f hv (set_rng hf))) rfl rfl rfl rfl (Les.refl _)) ?_; refine .x .xt ?_; refine .x .xt ?_; refine .x .xt ?_; refine .a ?_; refine .a ?_; refine .sb vs28 ?_; exact .sq <| .t <| .ret rfl (.tmp rfl <| .tmp rfl <| .cellN rfl rfl vs28 <| .nil) rfl (.refl _)
end Go.Proofs.YthjmgcopfipabaaGreat
end

section
namespace Go.Eng
def rxS (t : Tsk) (X : Int → Prop) (i : Nat) : Int → Prop := fun p => X p ∨ ((∀ q, q ∈ (nth t.ops i).pre → X q) ∧ p ∈ (nth t.ops i).add)
def rxF (t : Tsk) (X : Int → Prop) : List Nat → Int → Prop
 | [] => X
 | i :: l => rxF t (rxS t X i) l
def csO (t : Tsk) : List Nat → Int
 | [] => 0
 | i :: l => (nth t.ops i).cost + csO t l
structure Rx (t : Tsk) (s f : List Int) (l : List Nat) : Prop where
 i : ∀ i, i ∈ l → i < t.ops.length
 g : ∀ p, p ∈ f → rxF t (· ∈ s) l p
section
variable {t : Tsk} {X Y : Int → Prop} {l m : List Nat}
theorem rxS_mono (h : ∀ p, X p → Y p) {i : Nat} : ∀ p, rxS t X i p → rxS t Y i p := fun p hp => hp.elim (fun h1 => .inl (h p h1)) (fun ⟨h1, h2⟩ => .inr ⟨fun q hq => h q (h1 q hq), h2⟩)
theorem rxF_mono (h : ∀ p, X p → Y p) : ∀ p, rxF t X l p → rxF t Y l p := by
 induction l generalizing X Y with
 | nil => exact h
 | cons i l ih => exact ih (rxS_mono h)
theorem rxF_ext : ∀ p, X p → rxF t X l p := by
 induction l generalizing X with
 | nil => exact fun _ h => h
 | cons i l ih => exact fun p h => ih p (.inl h)
theorem rxF_app : rxF t X (l ++ m) = rxF t (rxF t X l) m := by
 induction l generalizing X with
 | nil => rfl
 | cons i l ih => exact ih
theorem rxF_snoc {i : Nat} : rxF t X (l ++ [i]) = rxS t (rxF t X l) i := by rw [rxF_app]; rfl
theorem rxF_app2 : ∀ p, rxF t X m p → rxF t X (l ++ m) p := fun p h => by rw [rxF_app]; exact rxF_mono rxF_ext p h
theorem rxF_inv {I : Int → Prop} (h0 : ∀ p, X p → I p) (hs : ∀ i, i ∈ l → (∀ q, q ∈ (nth t.ops i).pre → I q) → ∀ p, p ∈ (nth t.ops i).add → I p) : ∀ p, rxF t X l p → I p := by
 induction l generalizing X with
 | nil => exact h0
 | cons i l ih => exact ih (fun p hp => hp.elim (h0 p) (fun ⟨h1, h2⟩ => hs i (by simp) (fun q hq => h0 q (h1 q hq)) p h2)) (fun j hj => hs j (by simp [hj]))
theorem csO_app : csO t (l ++ m) = csO t l + csO t m := by
 induction l with
 | nil => simp [csO]
 | cons i l ih => simp only [List.cons_append, csO, ih]; omega
theorem csO_0 (hV : TskV t) (h : ∀ i, i ∈ l → i < t.ops.length) : 0 ≤ csO t l := by
 induction l with
 | nil => simp [csO]
 | cons i l ih =>
  have h1 := (hV.op i (h i (by simp))).2
  have h2 := ih fun j hj => h j (by simp [hj])
  simp only [csO]; omega
end
section
variable {t : Tsk} {s cs v : List Int}
theorem hd_gm (hv : VlP t.facts v) {f : List Int} (hf : SetP t.facts f) : nth (exV v) (hdF t.facts (exV v) f) = gmF v f := by
 rcases hd_spec (u := exV v) hf with ⟨h1, h2⟩ | ⟨h1, h2⟩
 ·rw [h2, exV_n hv.l, h1]; rfl
 ·have hr := setP_mem hf h1
  rw [exV_at hv.l hr.1 hr.2]
  have h3 := gm_ge (v := v) h1
  have h4 : gmF v f ≤ nth v (hdF t.facts (exV v) f) := gm_le (hv.r _ hr.1 hr.2).1 fun q hq => by
   have hq2 := setP_mem hf hq
   have := h2 q hq
   rwa [exV_at hv.l hr.1 hr.2, exV_at hv.l hq2.1 hq2.2] at this
  omega
noncomputable def vM (t : Tsk) (s cs : List Int) : List Int := vlW t s cs gmF
noncomputable def gM (t : Tsk) (s cs : List Int) : Int := gmF (vM t s cs) t.goal
noncomputable def uM (t : Tsk) (s cs : List Int) : List Int := exV (vM t s cs)
noncomputable def zM (t : Tsk) (s cs : List Int) : List Bool := znW t cs (uM t s cs)
noncomputable def bM (t : Tsk) (s cs : List Int) : List Bool := bfW t s (uM t s cs) (zM t s cs)
noncomputable def cM (t : Tsk) (s cs : List Int) : List Int × Int := cutF t cs (uM t s cs) (zM t s cs) (bM t s cs)
abbrev inM (t : Tsk) (s cs : List Int) (i : Nat) : Prop := inCut t (uM t s cs) (zM t s cs) (bM t s cs) i
structure CtV (t : Tsk) (s cs : List Int) : Prop where
 tk : TskV t
 sr : ∀ p, p ∈ s → 0 ≤ p ∧ p < t.facts
 cv : CsV t cs
theorem CtV.zp (h : CtV t s cs) : ZnP t cs (uM t s cs) (zM t s cs) := zn_p h.tk
theorem CtV.bf (h : CtV t s cs) : BfP t s (uM t s cs) (zM t s cs) (bM t s cs) := bf_p h.tk h.sr
theorem CtV.hm (h : CtV t s cs) : HmP t s cs (vM t s cs) := hm_p h.tk h.cv h.sr
theorem CtV.gr (h : CtV t s cs) : 0 ≤ gM t s cs ∧ gM t s cs ≤ 1000000000 := gm_cmb _ _ h.hm.vp h.tk.goal
theorem plusI_0le {a c : Int} (h1 : a ≤ 1000000000) (hc : c ≤ 0) : plusI a c ≤ a := by unfold plusI; split <;> omega
theorem CtV.zn (h : CtV t s cs) (g0 : 0 < gM t s cs) : ∀ q : Int, 0 ≤ q → q ≤ t.facts → nth (zM t s cs) q = true → gM t s cs ≤ nth (uM t s cs) q := by
 have hm := h.hm
 refine h.zp.i (fun q => gM t s cs ≤ nth (uM t s cs) q) ?_ fun i hi hc p hp hg => ?_
 ·show _ ≤ nth (exV _) (hdF _ (exV _) _)
  rw [hd_gm hm.vp h.tk.goal]; exact Int.le_refl _
 ·have hp2 := setP_mem (h.tk.op i hi).1.2.1 hp
  have h1 : nth (uM t s cs) p = nth (vM t s cs) p := exV_at hm.vp.l hp2.1 hp2.2
  have h2 := hm.fix i hi p hp
  have h3 := gm_cmb _ _ hm.vp (h.tk.op i hi).1.1
  have h4 := plusI_0le h3.2 hc
  show _ ≤ nth (exV _) (hdF _ (exV _) _)
  rw [hd_gm hm.vp (h.tk.op i hi).1.1]
  rw [h1] at hg; omega
theorem CtV.bz (h : CtV t s cs) (g0 : 0 < gM t s cs) : ∀ q : Int, 0 ≤ q → q ≤ t.facts → nth (bM t s cs) q = true → nth (zM t s cs) q = false := by
 refine h.bf.i fun q q0 q1 hq => ?_
 cases hz : nth (zM t s cs) q with
 | false => rfl
 | true =>
  have h1 := h.zn g0 q q0 q1 hz
  have hm := h.hm
  rcases hq with hq | hq
  ·have : nth (uM t s cs) q = 0 := by rw [hq]; exact exV_n hm.vp.l
   omega
  ·have h2 := h.sr q hq
   have : nth (uM t s cs) q = nth (vM t s cs) q := exV_at hm.vp.l h2.1 h2.2
   have := hm.s q hq
   omega
theorem CtV.hin (h : CtV t s cs) {f : List Int} (hf : SetP t.facts f) : 0 ≤ hdF t.facts (uM t s cs) f ∧ hdF t.facts (uM t s cs) f ≤ t.facts := hd_in h.tk hf
theorem CtV.pos (h : CtV t s cs) (g0 : 0 < gM t s cs) {i : Nat} (hi : i < t.ops.length) (hc : inM t s cs i) : 0 < nth cs i := by
 refine Classical.byContradiction fun hn => ?_
 obtain ⟨h1, p, hp, hz⟩ := hc
 have h2 := h.zp.c i hi (by omega) p hp hz
 have h3 := h.hin (h.tk.op i hi).1.1
 have h4 := h.bz g0 _ h3.1 h3.2 h1
 have h2 : nth (zM t s cs) (hdF t.facts (uM t s cs) (nth t.ops i).pre) = true := h2
 rw [h4] at h2; cases h2
theorem CtV.top (h : CtV t s cs) (g0 : 0 < gM t s cs) : ∃ p, p ∈ t.goal ∧ nth (bM t s cs) p = false ∧ nth (vM t s cs) p = gM t s cs := by
 have hm := h.hm
 have hz := h.zp.g
 have hr := h.hin h.tk.goal
 rcases hd_spec (u := uM t s cs) h.tk.goal with ⟨h1, _⟩ | ⟨h1, _⟩
 ·have : gM t s cs = 0 := by unfold gM; rw [h1]; rfl
  omega
 ·have hp := setP_mem h.tk.goal h1
  refine ⟨_, h1, ?_, ?_⟩
  ·cases hb : nth (bM t s cs) (hdF t.facts (uM t s cs) t.goal) with
   | false => rfl
   | true =>
    have := h.bz g0 _ hr.1 hr.2 hb
    have hz : nth (zM t s cs) (hdF t.facts (uM t s cs) t.goal) = true := hz
    rw [this] at hz; cases hz
  ·have h3 : nth (uM t s cs) (hdF t.facts (uM t s cs) t.goal) = _ := hd_gm hm.vp h.tk.goal
   have h4 : nth (uM t s cs) (hdF t.facts (uM t s cs) t.goal) = nth (vM t s cs) _ := exV_at hm.vp.l hp.1 hp.2
   rw [← h4]; exact h3
theorem CtV.bpre (h : CtV t s cs) {i : Nat} (hi : i < t.ops.length) (hq : ∀ q, q ∈ (nth t.ops i).pre → nth (bM t s cs) q = true) : nth (bM t s cs) (hdF t.facts (uM t s cs) (nth t.ops i).pre) = true := by
 rcases hd_spec (u := uM t s cs) (h.tk.op i hi).1.1 with ⟨_, h2⟩ | ⟨h1, _⟩
 ·rw [h2]; exact h.bf.n
 ·exact hq _ h1
theorem CtV.out (h : CtV t s cs) {i : Nat} (hi : i < t.ops.length) (hq : ∀ q, q ∈ (nth t.ops i).pre → nth (bM t s cs) q = true) (hn : ¬ inM t s cs i) : ∀ p, p ∈ (nth t.ops i).add → nth (bM t s cs) p = true := fun p hp => by
 have hb := h.bpre hi hq
 refine h.bf.c i hi hb p hp ?_
 cases hz : nth (zM t s cs) p with
 | false => rfl
 | true => exact absurd ⟨hb, p, hp, hz⟩ hn
theorem CtV.ex (h : CtV t s cs) (g0 : 0 < gM t s cs) (g1 : gM t s cs < 1000000000) : ∃ i : Nat, i < t.ops.length ∧ inM t s cs i := by
 refine Classical.byContradiction fun hn => ?_
 have hn : ∀ i : Nat, i < t.ops.length → ¬ inM t s cs i := fun i hi hc => hn ⟨i, hi, hc⟩
 have hf : Fea t s cs fun p => if nth (bM t s cs) p = true then 0 else 1000000000 := by
  refine ⟨fun p hp => ?_, fun p _ _ => ?_, fun i hi p hp b b0 b1 hq => ?_⟩
  ·show (if _ then (0 : Int) else _) ≤ 0
   rw [if_pos (h.bf.st p hp)]; exact Int.le_refl _
  ·show (if _ then (0 : Int) else _) ≤ _
   split <;> omega
  ·have hc := h.cv.r i hi
   have hin := plusI_in (a := b) (b := nth cs i) ⟨b0, b1⟩ (by omega)
   by_cases hb : b = 1000000000
   ·rw [← plusI_1 (.inl hb)]
    show (if _ then (0 : Int) else _) ≤ _
    split <;> omega
   ·have hpre : ∀ q, q ∈ (nth t.ops i).pre → nth (bM t s cs) q = true := fun q hq2 => by
     have := hq q hq2
     cases hx : nth (bM t s cs) q with
     | true => rfl
     | false => simp [hx] at this; omega
    show (if _ then (0 : Int) else _) ≤ _
    rw [if_pos (h.out hi hpre (hn i hi) p hp)]; exact hin.1
 obtain ⟨p, hp, hb, hg⟩ := h.top g0
 have hr := setP_mem h.tk.goal hp
 have := fea_le h.tk h.cv h.sr hf p hr.1 hr.2
 simp only [hb] at this
 have hvm : nth (vM t s cs) p = nth (vlW t s cs gmF) p := rfl
 simp at this; omega
theorem CtV.cost (h : CtV t s cs) (g0 : 0 < gM t s cs) (g1 : gM t s cs < 1000000000) : 0 < (cM t s cs).2 ∧ (cM t s cs).2 ≤ 100 ∧ ∀ i : Nat, i < t.ops.length → inM t s cs i → (cM t s cs).2 ≤ nth cs i := by
 obtain ⟨h1, h2, h3⟩ := cutT_c (t := t) (cs := cs) (u := uM t s cs) (z := zM t s cs) (b := bM t s cs) (k := t.ops.length)
 obtain ⟨j, hj, hc⟩ := h.ex g0 g1
 have h4 := h3 j hj hc
 have h5 := h.cv.r j hj
 have e : cutT t cs (uM t s cs) (zM t s cs) (bM t s cs) t.ops.length = cM t s cs := rfl
 rw [e] at h1 h2 h3 h4
 refine ⟨?_, by omega, h3⟩
 rcases h1 with h1 | ⟨i, hi, hc, he⟩
 ·omega
 ·rw [he]; exact h.pos g0 hi hc
theorem CtV.mem {x : Int} : x ∈ (cM t s cs).1 ↔ ∃ i : Nat, i < t.ops.length ∧ inM t s cs i ∧ x = i := cutT_mem
theorem CtV.hit (h : CtV t s cs) (g0 : 0 < gM t s cs) {l : List Nat} (hl : Rx t s t.goal l) : ∃ i, i ∈ l ∧ (i : Int) ∈ (cM t s cs).1 := by
 refine Classical.byContradiction fun hn => ?_
 have hn : ∀ i, i ∈ l → ¬ inM t s cs i := fun i hi hc => hn ⟨i, hi, CtV.mem.2 ⟨i, hl.i i hi, hc, rfl⟩⟩
 obtain ⟨p, hp, hb, _⟩ := h.top g0
 have := rxF_inv (I := fun p => nth (bM t s cs) p = true) (fun p hp => h.bf.st p hp) (fun i hi hq p hp => h.out (hl.i i hi) hq (hn i hi) p hp) p (hl.g p hp)
 rw [hb] at this; cases this
theorem CtV.fin (h : CtV t s cs) {l : List Nat} (hl : Rx t s t.goal l) : gM t s cs < 1000000000 := by
 have hm := h.hm
 have key := rxF_inv (t := t) (l := l) (X := (· ∈ s)) (I := fun p => 0 ≤ p ∧ p < t.facts ∧ nth (vM t s cs) p < 1000000000) (fun p hp => ⟨(h.sr p hp).1, (h.sr p hp).2, by rw [hm.s p hp]; omega⟩) (fun i hi hq p hp => by
  have hp2 := setP_mem (h.tk.op i (hl.i i hi)).1.2.1 hp
  have h1 := hm.fix i (hl.i i hi) p hp
  have h2 : gmF (vM t s cs) (nth t.ops i).pre ≤ 999999999 := gm_le (by omega) fun q hq2 => by have := hq q hq2; omega
  have h3 := h.cv.r i (hl.i i hi)
  refine ⟨hp2.1, hp2.2, ?_⟩
  rw [← plusI_0 (by omega)] at h1
  omega)
 have : gM t s cs ≤ 999999999 := gm_le (by omega) fun p hp => by have := key p (hl.g p hp); omega
 omega
end
def csC (cs l : List Int) (c : Int) : Nat → List Int
 | 0 => cs
 | k + 1 => (csC cs l c k).set (nth l k).toNat (nth (csC cs l c k) (nth l k) - c)
theorem csC_len {cs l : List Int} {c : Int} : ∀ {k : Nat}, (csC cs l c k).length = cs.length
 | 0 => rfl
 | k + 1 => by simp only [csC, List.length_set]; exact csC_len
theorem csC_at {cs l : List Int} {c : Int} (hp : l.Pairwise (· < ·)) (hr : ∀ x, x ∈ l → 0 ≤ x ∧ x < cs.length) {q : Int} (q0 : 0 ≤ q) (q1 : q < cs.length) : ∀ {k : Nat}, k ≤ l.length → nth (csC cs l c k) q = if q ∈ l.take k then nth cs q - c else nth cs q
 | 0, _ => by simp [csC]
 | k + 1, hk => by
  have ih := fun {q : Int} (q0 : 0 ≤ q) (q1 : q < cs.length) => csC_at (c := c) hp hr q0 q1 (k := k) (by omega)
  have hx := hr (nth l k) (nth_mem (by omega) (by omega))
  have hn : nth l k ∉ l.take k := fun hm => by
   obtain ⟨i, hi, he⟩ := List.getElem_of_mem hm
   rw [List.getElem_take] at he
   simp only [List.length_take] at hi
   have := List.pairwise_iff_getElem.1 hp i k (by omega) (by omega) (by omega)
   rw [he, nth_eq (by omega)] at this; omega
  simp only [csC]
  rw [nth_sI hx.1 (by rw [csC_len]; omega) q0 (by rw [csC_len]; omega), tk_s (by omega)]
  by_cases h : q = nth l k
  ·rw [if_pos h, if_pos (by rw [h]; simp), ih hx.1 hx.2, if_neg hn, h]
  ·rw [if_neg h, ih q0 q1]
   by_cases h2 : q ∈ l.take k
   ·rw [if_pos h2, if_pos (by simp [h2])]
   ·rw [if_neg h2, if_neg (by simp [h, h2])]
end Go.Eng
end

section
namespace Go.Eng
theorem znA_len {fr : Int} {add : List Int} {x : List Bool × Bool} : ∀ {j : Nat}, (znA fr add x j).1.length = x.1.length
 | 0 => rfl
 | j + 1 => by
  have ih := znA_len (fr := fr) (add := add) (x := x) (j := j)
  simp only [znA]
  split
  ·simpa using ih
  ·exact ih
noncomputable def csM (t : Tsk) (s cs : List Int) : List Int := csC cs (cM t s cs).1 (cM t s cs).2 (cM t s cs).1.length
inductive FnR (t : Tsk) (s : List Int) : List Int → List (List Int × Int) → Int → List (List Int × Int) × Int → Prop
 | zero {cs : List Int} {l : List (List Int × Int)} {T : Int} : gM t s cs = 0 → FnR t s cs l T (l, T)
 | inf {cs : List Int} {l : List (List Int × Int)} {T : Int} : gM t s cs = 1000000000 → FnR t s cs l T ([], 1000000000)
 | step {cs : List Int} {l : List (List Int × Int)} {T : Int} {r : List (List Int × Int) × Int} : gM t s cs ≠ 0 → gM t s cs ≠ 1000000000 → FnR t s (csM t s cs) (l ++ [cM t s cs]) (T + (cM t s cs).2) r → FnR t s cs l T r
section
variable {t : Tsk} {s cs v : List Int} {l : List (List Int × Int)} {T : Int} {r : List (List Int × Int) × Int}
theorem FnR.inv (h : FnR t s cs l T r) : (gM t s cs = 0 → r = (l, T)) ∧ (gM t s cs = 1000000000 → r = ([], 1000000000)) ∧ (gM t s cs ≠ 0 → gM t s cs ≠ 1000000000 → FnR t s (csM t s cs) (l ++ [cM t s cs]) (T + (cM t s cs).2) r) := by
 cases h with
 | zero h => exact ⟨fun _ => rfl, fun h2 => by omega, fun h2 => absurd h h2⟩
 | inf h => exact ⟨fun h2 => by omega, fun _ => rfl, fun _ h2 => absurd h h2⟩
 | step h1 h2 h3 => exact ⟨fun h => absurd h h1, fun h => absurd h h2, fun _ _ => h3⟩
theorem CtV.crg (h : CtV t s cs) : ∀ x, x ∈ (cM t s cs).1 → 0 ≤ x ∧ x < t.ops.length := fun x hx => by
 obtain ⟨i, hi, _, rfl⟩ := CtV.mem.1 hx; omega
theorem CtV.lt : (cM t s cs).1.Pairwise (· < ·) := cutT_lt
theorem CtV.at (h : CtV t s cs) {i : Nat} (hi : i < t.ops.length) : nth (csM t s cs) i = if inM t s cs i then nth cs i - (cM t s cs).2 else nth cs i := by
 have hl := h.cv.l
 unfold csM
 rw [csC_at CtV.lt (fun x hx => by have := h.crg x hx; omega) (by omega) (by omega) (Nat.le_refl _), List.take_length]
 by_cases hc : inM t s cs i
 ·rw [if_pos hc, if_pos (CtV.mem.2 ⟨i, hi, hc, rfl⟩)]
 ·rw [if_neg hc, if_neg fun hm => by
   obtain ⟨j, _, hj, e⟩ := CtV.mem.1 hm
   obtain rfl : i = j := by omega
   exact hc hj]
theorem csC_sum {cs l : List Int} {c : Int} (hr : ∀ x, x ∈ l → 0 ≤ x ∧ x < cs.length) : ∀ {k : Nat}, k ≤ l.length → (csC cs l c k).sum = cs.sum - k * c
 | 0, _ => by simp [csC]
 | k + 1, hk => by
  have ih := csC_sum (c := c) hr (k := k) (by omega)
  have hx := hr (nth l k) (nth_mem (by omega) (by omega))
  simp only [csC]
  rw [smL_setI hx.1 (by rw [csC_len]; omega), ih]
  have : ((k + 1 : Nat) : Int) * c = k * c + c := by rw [Int.natCast_add, Int.add_mul]; simp
  omega
theorem CtV.next (h : CtV t s cs) (g0 : 0 < gM t s cs) (g1 : gM t s cs < 1000000000) : CtV t s (csM t s cs) ∧ (csM t s cs).sum + (cM t s cs).2 ≤ cs.sum := by
 have hl := h.cv.l
 obtain ⟨c0, c1, c2⟩ := h.cost g0 g1
 refine ⟨⟨h.tk, h.sr, by unfold csM; rw [csC_len]; exact hl, fun i hi => ?_⟩, ?_⟩
 ·rw [h.at hi]
  have h1 := h.cv.r i hi
  split
  ·rename_i hc
   have := c2 i hi hc; omega
  ·exact h1
 ·unfold csM
  rw [csC_sum (fun x hx => by have := h.crg x hx; omega) (Nat.le_refl _)]
  obtain ⟨i, hi, hc⟩ := h.ex g0 g1
  have h1 : 0 < (cM t s cs).1.length := List.length_pos_iff.2 fun e => by
   have := CtV.mem.2 ⟨i, hi, hc, rfl⟩
   rw [e] at this; simp at this
  have h2 : 1 * (cM t s cs).2 ≤ ((cM t s cs).1.length : Int) * (cM t s cs).2 := Int.mul_le_mul_of_nonneg_right (by omega) (by omega)
  omega
theorem CtV.step (h : CtV t s cs) (g0 : 0 < gM t s cs) (g1 : gM t s cs < 1000000000) : gM t s cs ≤ (cM t s cs).2 + gM t s (csM t s cs) := by
 have hm := h.hm
 obtain ⟨c0, c1, c2⟩ := h.cost g0 g1
 have hN := (h.next g0 g1).1
 have hf : Fea t s (csM t s cs) fun p => min (nth (vM t s cs) p) (gM t s cs - (cM t s cs).2) := by
  refine ⟨fun p hp => ?_, fun p p0 p1 => ?_, fun i hi p hp b b0 b1 hq => ?_⟩
  ·show min _ _ ≤ _
   rw [hm.s p hp]; omega
  ·show min _ _ ≤ _
   have := hm.vp.r p p0 p1; omega
  ·show min _ _ ≤ _
   have h1 := h.cv.r i hi
   have h2 := hN.cv.r i hi
   by_cases hb : gM t s cs - (cM t s cs).2 ≤ b
   ·unfold plusI; split <;> omega
   ·have hg : gmF (vM t s cs) (nth t.ops i).pre ≤ b := gm_le b0 fun q hq2 => by
     have h6 : min (nth (vM t s cs) q) (gM t s cs - (cM t s cs).2) ≤ b := hq q hq2
     omega
    have hg0 := (gm_cmb _ _ hm.vp (h.tk.op i hi).1.1).1
    rw [← plusI_0 (a := b) (by omega)]
    by_cases hc : inM t s cs i
    ·have e := h.at hi
     rw [if_pos hc] at e
     obtain ⟨_, p', hp', hz⟩ := hc
     have hp2 := setP_mem (h.tk.op i hi).1.2.1 hp'
     have h3 := h.zn g0 p' hp2.1 (by omega) hz
     have h4 : nth (uM t s cs) p' = nth (vM t s cs) p' := exV_at hm.vp.l hp2.1 hp2.2
     have h5 := hm.fix i hi p' hp'
     rw [← plusI_0 (by omega)] at h5
     omega
    ·have e := h.at hi
     rw [if_neg hc] at e
     have h5 := hm.fix i hi p hp
     rw [← plusI_0 (by omega)] at h5
     omega
 obtain ⟨p, hp, _, hg⟩ := h.top g0
 have hr := setP_mem h.tk.goal hp
 have h1 := fea_le hN.tk hN.cv hN.sr hf p hr.1 hr.2
 have h2 : nth (vM t s (csM t s cs)) p ≤ gM t s (csM t s cs) := gm_ge hp
 have h3 : nth (vlW t s (csM t s cs) gmF) p = nth (vM t s (csM t s cs)) p := rfl
 rw [h3] at h1
 simp only [hg] at h1
 omega
def sumC (l : List (List Int × Int)) : Int := (l.map (·.2)).sum
def chgC (l : List (List Int × Int)) (i : Nat) : Int := (l.map fun c => if (i : Int) ∈ c.1 then c.2 else 0).sum
structure CutsP (t : Tsk) (s cs : List Int) (l : List (List Int × Int)) : Prop where
 g : gM t s cs ≤ sumC l
 c : ∀ i : Nat, i < t.ops.length → chgC l i ≤ nth cs i
 n : (l.length : Int) ≤ sumC l
 m : sumC l ≤ cs.sum
 e : ∀ c, c ∈ l → 0 ≤ c.2 ∧ c.1 ≠ [] ∧ c.1.Pairwise (· < ·) ∧ (∀ x, x ∈ c.1 → 0 ≤ x ∧ x < t.ops.length) ∧ ∀ l, Rx t s t.goal l → ∃ i, i ∈ l ∧ (i : Int) ∈ c.1
theorem CsV.sum {cs : List Int} (h : CsV t cs) : 0 ≤ cs.sum ∧ cs.sum ≤ 100 * t.ops.length := by
 have : ∀ l : List Int, (∀ x, x ∈ l → 0 ≤ x ∧ x ≤ 100) → 0 ≤ l.sum ∧ l.sum ≤ 100 * l.length := fun l => by
  induction l with
  | nil => simp
  | cons a l ih =>
   intro hl
   have h1 := hl a (by simp)
   have h2 := ih fun x hx => hl x (by simp [hx])
   simp only [List.sum_cons, List.length_cons]; omega
 rw [← h.l]
 refine this cs fun x hx => ?_
 obtain ⟨i, hi, rfl⟩ := List.getElem_of_mem hx
 have := h.r i (by have := h.l; omega)
 rw [nth_eq hi] at this; exact this
theorem fn_spec (hr : FnR t s cs l T r) (h : CtV t s cs) : (r = ([], 1000000000) ∧ ∀ m, ¬ Rx t s t.goal m) ∨ ∃ m, r = (l ++ m, T + sumC m) ∧ CutsP t s cs m := by
 induction hr with
 | zero hg => exact .inr ⟨[], by simp [sumC], by rw [hg]; simp [sumC], fun i hi => by have := h.cv.r i hi; simp [chgC]; omega, by simp [sumC], by simp [sumC]; exact h.cv.sum.1, fun c hc => by simp at hc⟩
 | inf hg => exact .inl ⟨rfl, fun m hm => by have := h.fin hm; omega⟩
 | @step cs l T r hg0 hg1 hr ih =>
  have hgr := h.gr
  have g0 : 0 < gM t s cs := by omega
  have g1 : gM t s cs < 1000000000 := by omega
  obtain ⟨hN, hsum⟩ := h.next g0 g1
  obtain ⟨c0, c1, c2⟩ := h.cost g0 g1
  rcases ih hN with h1 | ⟨m, h1, h2⟩
  ·exact .inl h1
  ·have hst := h.step g0 g1
   have e1 : sumC (cM t s cs :: m) = (cM t s cs).2 + sumC m := by simp [sumC]
   refine .inr ⟨cM t s cs :: m, by rw [h1, e1]; simp; omega, ?_, fun i hi => ?_, ?_, ?_, fun c hc => ?_⟩
   ·rw [e1]; have := h2.g; omega
   ·have h3 := h2.c i hi
    rw [h.at hi] at h3
    have e2 : chgC (cM t s cs :: m) i = (if (i : Int) ∈ (cM t s cs).1 then (cM t s cs).2 else 0) + chgC m i := by simp [chgC]
    rw [e2]
    by_cases hc : inM t s cs i
    ·rw [if_pos hc] at h3
     rw [if_pos (CtV.mem.2 ⟨i, hi, hc, rfl⟩)]; omega
    ·rw [if_neg hc] at h3
     rw [if_neg fun hm => by
      obtain ⟨j, _, hj, e⟩ := CtV.mem.1 hm
      obtain rfl : i = j := by omega
      exact hc hj]
     omega
   ·rw [e1]; have := h2.n; simp only [List.length_cons]; omega
   ·rw [e1]; have := h2.m; omega
   ·rcases List.mem_cons.1 hc with rfl | hc
    ·obtain ⟨i, hi, hin⟩ := h.ex g0 g1
     exact ⟨by omega, fun e => by have := CtV.mem.2 ⟨i, hi, hin, rfl⟩; rw [e] at this; simp at this, CtV.lt, h.crg, fun l hl => h.hit g0 hl⟩
    ·exact h2.e c hc
structure FnI (t : Tsk) (s : List Int) (x : List Int × List (List Int × Int) × Int) : Prop where
 c : CtV t s x.1
 T : 0 ≤ x.2.2 ∧ x.2.2 + x.1.sum ≤ 4000
 n : (x.2.1.length : Int) ≤ x.2.2
theorem FnI.next {x : List Int × List (List Int × Int) × Int} (h : FnI t s x) (g0 : gM t s x.1 ≠ 0) (g1 : gM t s x.1 ≠ 1000000000) : FnI t s (csM t s x.1, x.2.1 ++ [cM t s x.1], x.2.2 + (cM t s x.1).2) ∧ (csM t s x.1).sum.toNat < x.1.sum.toNat ∧ 0 < (cM t s x.1).2 ∧ (cM t s x.1).2 ≤ 100 := by
 have hgr := h.c.gr
 obtain ⟨hN, hsum⟩ := h.c.next (by omega) (by omega)
 obtain ⟨c0, c1, c2⟩ := h.c.cost (by omega) (by omega)
 have h1 := h.T
 have h2 := h.n
 have h3 := hN.cv.sum
 exact ⟨⟨hN, ⟨by simp only []; omega, by simp only []; omega⟩, by simp only [List.length_append, List.length_singleton]; omega⟩, by omega, c0, c1⟩
theorem fn_ends : ∀ (d : Nat) {x : List Int × List (List Int × Int) × Int}, x.1.sum.toNat < d → FnI t s x → ∃ r, FnR t s x.1 x.2.1 x.2.2 r
 | 0, _, hd, _ => by omega
 | d + 1, x, hd, h => by
  by_cases g0 : gM t s x.1 = 0
  ·exact ⟨_, .zero g0⟩
  ·by_cases g1 : gM t s x.1 = 1000000000
   ·exact ⟨_, .inf g1⟩
   ·obtain ⟨h1, h2, _⟩ := h.next g0 g1
    obtain ⟨r, hr⟩ := fn_ends d (by simp only []; omega) h1
    exact ⟨r, .step g0 g1 hr⟩
theorem fn_0 (hV : TskV t) (hs : ∀ p, p ∈ s → 0 ≤ p ∧ p < t.facts) : FnI t s (cssF t, [], 0) := by
 have h := css_v hV
 have h1 := h.sum
 have h2 := hV.ops
 exact ⟨⟨hV, hs, h⟩, ⟨by simp, by simp; omega⟩, by simp⟩
noncomputable def fnW (t : Tsk) (s : List Int) : List (List Int × Int) × Int := open Classical in if h : ∃ r, FnR t s (cssF t) [] 0 r then h.choose else ([], 0)
theorem fnW_ok (hV : TskV t) (hs : ∀ p, p ∈ s → 0 ≤ p ∧ p < t.facts) : FnR t s (cssF t) [] 0 (fnW t s) := by
 have h : ∃ r, FnR t s (cssF t) [] 0 r := fn_ends _ (Nat.lt_succ_self _) (fn_0 hV hs)
 unfold fnW
 rw [dif_pos h]
 exact h.choose_spec
noncomputable def cutW (t : Tsk) (s : List Int) : List (List Int × Int) × Int := if sttF t s = (0, 0) then fnW t s else ([], 0)
theorem cutW_1 (h : sttF t s ≠ (0, 0)) : cutW t s = ([], 0) := by unfold cutW; rw [if_neg h]
theorem cutW_0 (h : sttF t s = (0, 0)) : cutW t s = fnW t s := by unfold cutW; rw [if_pos h]
end
section
variable {t : Tsk} {s cs u v : List Int} {z b : List Bool}
theorem cutT_le : ∀ {k : Nat}, (cutT t cs u z b k).1.length ≤ k
 | 0 => by simp [cutT]
 | k + 1 => by
  have ih := cutT_le (k := k)
  simp only [cutT]
  split
  ·simp; omega
  ·omega
theorem cut_f {i : Nat} (h : ¬ inCut t u z b i) : cutT t cs u z b (i + 1) = cutT t cs u z b i := by simp only [cutT]; rw [if_neg h]
theorem cut_t {i : Nat} (h : inCut t u z b i) : cutT t cs u z b (i + 1) = ((cutT t cs u z b i).1 ++ [(i : Int)], min (cutT t cs u z b i).2 (nth cs i)) := by simp only [cutT]; rw [if_pos h]
theorem cut_no {l : List Int} (h : ∀ k : Nat, k < l.length → nth z (nth l k) = false) : ¬ ∃ p, p ∈ l ∧ nth z p = true := by
 rintro ⟨p, hp, hz⟩
 obtain ⟨i, hi, rfl⟩ := List.getElem_of_mem hp
 have := h i hi
 rw [nth_eq hi, hz] at this; cases this
theorem gm_ex {n : Int} (hl : (v.length : Int) = n) {f : List Int} (hf : SetP n f) : gmF (exV v) f = gmF v f := by
 have : ∀ k : Nat, k ≤ f.length → gmT (exV v) f k = gmT v f k := fun k => by
  induction k with
  | zero => exact fun _ => rfl
  | succ k ih =>
   intro hk
   have hr := set_rng hf k (by omega)
   simp only [gmT]
   rw [ih (by omega), exV_at hl hr.1 hr.2]
 exact this _ (Nat.le_refl _)
theorem csC_rng (h : CtV t s cs) (g0 : gM t s cs ≠ 0) (g1 : gM t s cs ≠ 1000000000) {k : Nat} (hk : k ≤ (cM t s cs).1.length) {q : Int} (q0 : 0 ≤ q) (q1 : q < t.ops.length) : -100 ≤ nth (csC cs (cM t s cs).1 (cM t s cs).2 k) q ∧ nth (csC cs (cM t s cs).1 (cM t s cs).2 k) q ≤ 100 := by
 have hgr := h.gr
 obtain ⟨c0, c1, _⟩ := h.cost (by omega) (by omega)
 have hl := h.cv.l
 obtain ⟨i, rfl⟩ := Int.eq_ofNat_of_zero_le q0
 have hr := h.cv.r i (by omega)
 rw [csC_at CtV.lt (fun x hx => by have := h.crg x hx; omega) q0 (by omega) hk]
 split <;> omega
end
end Go.Eng
end

section
namespace Go.Eng
section
variable {P : Program} {N : Nat} {w0 : World} {O0 : Nat → Nat} {Q : Post} {hs : List Nat} {e0 : Env} {M0 : Mem} {ops : Array Oper}
theorem PC.doneL1 {id : Nat} {ps : List PO} {e : Env} {rest : List Oper} (k f h1 : Nat) (m1 : Mo) {pf : PO} {ok of : Oper} {e2 : Env} (hm : P.follows .mixedOrders = true) (hkl : ps.length = k) (hok : parOkL ops k f = true) (hh : handOk e0 M0 ps = true) (hso : stOk hs ps = true) (hN : ps.all (fun p => !p.ds || decide (p.d < N)) = true)
  (hpf : ps[f]? = some pf) (hpfs : pf.st = none) (hpfm : pf.mo = none) (hpfd : pf.ds = true) (hof : ops[f]? = some of) (_hd2 : DropR pf.d e e2) (he2 : finE (dropE pf.d e0) (ps.eraseIdx f) = e2) (hM1 : finM M0 ps = (h1, m1) :: M0) (hM2 : finM M0 (ps.eraseIdx f) = (h1, m1) :: M0)
  (ht : TrOps P N w0 O0 ops Q e ((h1, m1) :: M0) (ok :: rest)) (htl : TrOps P N w0 O0 ops Q e2 ((h1, m1) :: M0) (ok :: of :: rest)) : PC P N w0 O0 id ops Q hs e0 M0 ps e (ok :: rest) := by
 subst he2
 exact PC.doneL k f hm hkl hok hh hso hN hpf hpfs hpfm hpfd hof (by rw [hM1]; exact ht) (by rw [hM2]; exact htl)
end
section
variable {P : Program} {N : Nat} {w0 : World} {O0 : Nat → Nat} {e : Env} {M : Mem}
theorem At.retG {fn : Func} {c t hb h k T : Nat} {rows rows' : List (List D)} {v v' : Value} (hres : fn.results.toList = [.cell c t]) (hc : look e c = some (.r hb 0)) (hMb : look M hb = some (.box [.o h, .d (.v v)])) (ht : vsz P t = some (true, 2)) (hM : look M h = some (.own k T rows))
  (hf : ∀ r, r ∈ rows → ∀ d, d ∈ r → ∃ v, d = .v v) (hr : rows = rows') (hv : v = v') : At N w0 O0 e M .ret (bodyPost P fn (Ret true w0 O0 (.g [.d (.s k rows'), .d (.v v')]))) := by
 subst hr; subst hv
 intro O H a w hst
 obtain ⟨vs, h1, h2, h3⟩ := (RetL.cellN (P := P) (rs := []) hc hMb ht .nil).run hst
 obtain ⟨x, rfl⟩ : ∃ x, vs = [x] := by
  rcases vs with _ | ⟨x, _ | ⟨y, vs⟩⟩ <;> simp at h2
  exact ⟨x, rfl⟩
 have hrun : (results fn a.tmps).run P w = .ok x w := by
  rw [results_rv, Array.mapM_eq_mapM_toList, hres]
  simp only [Sem.run_bind, Sem.run_map, h1, Result.andThen_ok, Sem.run_pure]
  simp
 refine ⟨hst.df, _, hrun, _, rfl, hst.bl, ?_⟩
 have hx := h3 0 x _ rfl rfl
 have hB := hst.size
 clear hrun h1 h3 h2
 cases hx with
 | g xs ss hl h1 hg =>
  refine .g xs _ (by rw [hl]; rfl) h1 fun i y s hy hs => ?_
  rcases i with _ | _ | i
  ·simp only [List.getElem?_cons_zero, Option.some.injEq] at hs
   subst hs
   have hy2 := hg 0 y _ hy rfl
   cases hy2 with
   | o h h1' =>
    rcases hst.mem h _ hM with ⟨hn, hr0⟩ | ⟨b, cap, xs', hH, hB', hO', hbb, hlc, hcm, hsz, hw, hcc⟩
    ·subst hr0; rw [hn]; exact .d _ _ (.e none 0 k (by simp [maxLen]))
    ·rw [hH]
     refine .d _ _ (.s b 0 cap k rows (fun n => (xs'[n]?).getD undef) hlc hcm hw (fun _ _ _ _ _ _ => by simp [freshO, Fr, hB']) (fun i r j d hi hj => ?_) (fun i r j d hi hj => ?_))
     ·obtain ⟨y, hy, _⟩ := hcc i r j d hi hj
      rw [cellOf hbb (by rw [Nat.zero_add]; exact hy), hy]; rfl
     ·obtain ⟨y, hy, hr, _⟩ := hcc i r j d hi hj
      obtain ⟨z, rfl⟩ := hf r (List.mem_of_getElem? hi) d (List.mem_of_getElem? hj)
      simp only [hy, Option.getD_some]
      cases hr with
      | v _ => exact .v _
  ·simp only [List.getElem?_cons_succ, List.getElem?_cons_zero, Option.some.injEq] at hs
   subst hs
   have hy2 := hg 1 y _ hy rfl
   cases hy2 with
   | d _ _ q => cases q with
    | v _ => exact .d _ _ (.v _)
  ·simp at hs
end
end Go.Eng
end

section
namespace Go.Proofs.YthjmgcopfipabaaGreat
open Go.Eng
set_option maxRecDepth 10000
set_option maxHeartbeats 1000000
theorem lmcut_search_hardest_does (t : Tsk) (s cs u f : List Int) (hV : TskV t) (hu : (u.length : Int) = t.facts + 1) (hf : SetP t.facts f) : Does Tryz.prog false 82 [.p [.v (.int .i64 t.facts), ints t.ini, ints t.goal, sopsD t.ops, ints s, ints cs, ints u], .d (ints f)] (I (hdF t.facts u f)) := by
 have hf0 := hV.facts
 have hrg := set_rng hf
 refine Does.of_body Tryz.func82 rfl rfl (by simp) Tryz.call82 (fun w0 O0 => ?_); refine .le 1 fun len1 => ?_; refine .g <| .r <| .a ?_; refine .z <| .m ?_; refine .x (OpSem.nilp rfl rfl) ?_; refine .x (OpSem.fieldp rfl rfl fo97_0) ?_; refine .x (OpSem.fieldp rfl rfl fo25_0) ?_; refine .x (.l1 vs3) ?_; refine .a ?_; refine .sq <| .g <| .g <| .r <| .m ?_; refine .x (.n es22) ?_; refine .m ?_; refine .sq <| .k <| .loop (X := Nat) (fun k => k ≤ f.length) (fun k => [(0, .p [.v (.int .i64 t.facts), ints t.ini, ints t.goal, sopsD t.ops, ints s, ints cs, ints u]), (5, I (hdT t.facts u f k)), (13, .d (ints f)), (14, I (f.length)), (15, I (k))]) (fun k => []) (fun k => f.length - k) 0 (by omega) ?_ ?_
 ·exact .sl <| .slot rfl (Le.of_eq rfl) <| .p2 <| .slot rfl (Le.of_eq (by simp)) <| .nil
 ·rintro k hkl
  refine .g <| .r <| .x (.b blss) ?_; refine .sq <| .g <| .cond rfl (fun c16 => ?_) (fun c16 => ?_)
  ·have hk : k < f.length := by simpa using c16
   have hfk := hrg k hk
   have hd := hdT_in (u := u) hrg hf0.1 hkl
   refine .p <| .g <| .g <| .k <| .g <| .r <| .x (.i es22) ?_; refine .x (.l1 vs3) ?_; refine .a ?_; refine .sq <| .g <| PC.start [] ?_; refine .mm ?_; refine .x (OpSem.nilp rfl rfl) ?_; refine .x (OpSem.fieldp rfl rfl fo97_0) ?_; refine .x (OpSem.fieldp rfl rfl fo25_0) ?_; refine .x (.l1 vs3) ?_; refine .x (.b beql) ?_; refine .m ?_; refine .split (n := 26) rfl (fun c26 => ?_) (fun c26 => ?_)
   ·refine .hf c26 ?_; refine .hf c26 ?_; refine .hf c26 ?_; refine .hf c26 ?_; refine .hf c26 ?_; refine .hf c26 ?_; refine .hf c26 ?_; refine .hf c26 ?_; refine .hf c26 ?_; refine .hf c26 ?_; refine .hf c26 ?_; refine .hf c26 ?_; refine .hf c26 ?_; refine .hf c26 ?_; refine .d0 mixed ?_; refine .hf c26 ?_; refine .x (OpSem.pickT rfl rfl c26 rfl) ?_; refine .sq <| .condT rfl rfl ?_; refine .r <| .m ?_; refine .a ?_; refine .n <| .n <| .y <| .x .ad ?_; refine .m ?_; refine .n <| .again (k + 1) (by omega) ?_ (by omega); exact .sl <| .slot rfl (Le.i (by simp only [hdT]; rw [if_pos (.inl (by simpa using c26))])) <| .p2 <| .slot rfl (Le.of_eq (by simp)) <| .nil
   ·refine .ht (OpSem.move (.inl rfl) rfl) c26 ?_; refine .ht (OpSem.nilp rfl rfl) c26 ?_; refine .ht (OpSem.fieldp rfl rfl fo97_3) c26 ?_; refine .ht (.l1 vs22) c26 ?_; refine .ht (OpSem.move (.inl rfl) rfl) c26 ?_; refine .ht (.i es22) c26 ?_; refine .ht (.l1 vs3) c26 ?_; refine .ht (OpSem.move (.inl rfl) rfl) c26 ?_; refine .ht (OpSem.nilp rfl rfl) c26 ?_; refine .ht (OpSem.fieldp rfl rfl fo97_3) c26 ?_; refine .ht (.l1 vs22) c26 ?_; refine .ht (OpSem.move (.inl rfl) rfl) c26 ?_; refine .ht (.i es22) c26 ?_; refine .ht (.l1 vs3) c26 ?_; refine .d0 mixed ?_; refine .ht c26 ?_; refine .x (.b bgtr) ?_; refine .x (OpSem.pickF rfl rfl c26 rfl) ?_; refine .sq <| .cond rfl (fun c42 => ?_) (fun c42 => ?_)
    ·refine .r <| .m ?_; refine .a ?_; refine .n <| .n <| .y <| .x .ad ?_; refine .m ?_; refine .n <| .again (k + 1) (by omega) ?_ (by omega); exact .sl <| .slot rfl (Le.i (by simp only [hdT]; rw [if_pos (.inr (by simpa using c42))])) <| .p2 <| .slot rfl (Le.of_eq (by simp)) <| .nil
    ·refine .p <| .n <| .y <| .x .ad ?_; refine .m ?_; refine .n <| .again (k + 1) (by omega) ?_ (by omega); exact .sl <| .slot rfl (Le.i (by simp only [hdT]; rw [if_neg (fun h => h.elim (by simpa using c26) (by simpa using c42))])) <| .p2 <| .slot rfl (Le.of_eq (by simp)) <| .nil
  ·have hk : k = f.length := by simp at c16; omega
   refine .u <| .u <| .u <| .b <| .z <| .m ?_; refine .a ?_; exact .sq <| .t <| .ret rfl (.tmp rfl <| .nil) rfl (Le.i (by subst hk; rfl))
theorem lmcut_search_zone_does (t : Tsk) (s cs u : List Int) (hV : TskV t) (hu : (u.length : Int) = t.facts + 1) (hc : CsV t cs) : DoesO Tryz.prog 80 [.p [.v (.int .i64 t.facts), ints t.ini, ints t.goal, sopsD t.ops, ints s, ints cs, ints u]] 1 4 (((znW t cs u).map fun b => [D.v (.bool b)])) := by
 have hf0 := hV.facts
 have hol := hV.ops
 have hn := nF_eq t
 have hcl := hc.l
 have hh := hd_in (u := u) hV hV.goal
 refine DoesO.of_body Tryz.func80 rfl rfl (by simp) Tryz.call80 (fun w0 O0 => ?_); refine .g <| .r <| .a ?_; refine .z <| .m ?_; refine .x (OpSem.nilp rfl rfl) ?_; refine .x (OpSem.fieldp rfl rfl fo97_0) ?_; refine .x (OpSem.fieldp rfl rfl fo25_0) ?_; refine .x (.l1 vs3) ?_; refine .x .ad ?_; refine .mk 16 es75 ze75 bye75 ?_; refine .a ?_; refine .sq <| .g <| .memEq (h := 16) (m' := .own 1 4 ((List.replicate (nF t) false).map fun b => [D.v (.bool b)])) rfl (by rw [el75, show (t.facts + 1).toNat = nF t from by rw [nF_eq]; omega]; first | (simp; done) | (simp; rfl)) ?_; refine .r <| .mm ?_; refine .m ?_; refine .x (OpSem.nilp rfl rfl) ?_; refine .x (OpSem.fieldp rfl rfl fo97_0) ?_; refine .x (OpSem.fieldp rfl rfl fo25_2) ?_; refine .x (.l1 vs22) ?_; refine .x (OpSem.call0 (lmcut_search_hardest_does t s cs u t.goal hV hu hV.goal) rfl rfl rfl rfl (Les.refl _)) ?_; refine .x (OpSem.idxo rfl rfl rfl rfl es75 (by omega) (by simp; omega)) ?_; refine .storeq rfl rfl rfl rfl rfl rfl rfl vs4 (rows_get (by omega) (by first | (simp; done) | (simp; omega))) (by simp) ?_; refine .sq <| .g <| .g <| .r <| .a ?_; refine .sq <| .k <| .loop (X := (List Bool × Bool)) (fun x => x.1.length = nF t ∧ (x.2 = true → PsR (fun z => znP t cs u z t.ops.length) x.1 (znW t cs u)) ∧ (x.2 = false → x.1 = znW t cs u)) (fun x => [(0, .p [.v (.int .i64 t.facts), ints t.ini, ints t.goal, sopsD t.ops, ints s, ints cs, ints u]), (3, .o 16), (4, Bo (x.2))]) (fun x => [(16, .own 1 4 (x.1.map fun b => [D.v (.bool b)]))]) (fun x => ps_mu x) (zn0 t u, true) ⟨by simp [zn0], fun _ => znW_ok hV, fun h => by cases h⟩ ?_ ?_
 ·exact .p3 <| .memEq rfl (by exact congrArg (Mo.own 1 4) (rows_set (f := fun b => [D.v (.bool b)]))) <| .nil
 ·rintro x ⟨hC, hT, hF⟩
  refine .g <| .g <| .r <| .m ?_; refine .sq <| .cond rfl (fun c26 => ?_) (fun c26 => ?_)
  ·obtain ⟨hI1, hI2⟩ := (hT c26).inv
   refine .p <| .g <| .k <| .g <| .r <| .a ?_; refine .z <| .m ?_; refine .x (OpSem.nilp rfl rfl) ?_; refine .x (OpSem.fieldp rfl rfl fo97_0) ?_; refine .x (OpSem.fieldp rfl rfl fo25_3) ?_; refine .x (.l1 vs23) ?_; refine .x (.n es23) ?_; refine .m ?_; refine .sq <| .k <| .loop (X := Nat) (fun i => i ≤ t.ops.length) (fun i => [(0, .p [.v (.int .i64 t.facts), ints t.ini, ints t.goal, sopsD t.ops, ints s, ints cs, ints u]), (3, .o 16), (4, Bo ((znP t cs u x.1 i).2)), (31, .d (sopsD t.ops)), (32, I (t.ops.length)), (33, I (i))]) (fun i => [(16, .own 1 4 (((znP t cs u x.1 i).1).map fun b => [D.v (.bool b)]))]) (fun i => t.ops.length - i) 0 (by omega) ?_ ?_
   ·exact .p2 <| .slot rfl (Le.bo rfl) <| .p2 <| .slot rfl (Le.of_eq (by simp)) <| .memEq rfl rfl <| .nil
   ·rintro i hil
    refine .g <| .r <| .x (.b blss) ?_; refine .sq <| .g <| .cond rfl (fun c34 => ?_) (fun c34 => ?_)
    ·have hi : i < t.ops.length := by simpa using c34
     have hP := (znP_p (cs := cs) (u := u) hV hC (i := i) (by omega)).1
     have hpre := (hV.op i hi).1.1
     have hadd := set_rng (hV.op i hi).1.2.1
     have hadl := setP_len (hV.op i hi).1.2.1 hf0.2
     have hhp := hd_in (u := u) hV hpre
     refine .p <| .g <| .g <| .k <| .g <| .r <| .m ?_; refine .x (.i es23) ?_; refine .x (.lN vs41) ?_; refine .al 6 zc41 ?_; refine .a ?_; refine .sb vs41 ?_; refine .z <| .m ?_; refine .x (.f fo41_0) ?_; refine .x (.l vs22) ?_; refine .x (OpSem.call0 (lmcut_search_hardest_does t s cs u (nth t.ops i).pre hV hu hpre) rfl rfl rfl rfl (Les.refl _)) ?_; refine .a ?_; refine .sq <| .g <| .g <| .r <| .m ?_; refine .x (OpSem.nilp rfl rfl) ?_; refine .x (OpSem.fieldp rfl rfl fo97_2) ?_; refine .x (.l1 vs22) ?_; refine .m ?_; refine .x (.i es22) ?_; refine .x (.l1 vs3) ?_; refine .x (.b bgtr) ?_; refine .m ?_; refine .split (n := 50) rfl (fun c50 => ?_) (fun c50 => ?_)
     ·have hst : znP t cs u x.1 (i + 1) = (znP t cs u x.1 i) := by show znO t cs u (znP t cs u x.1 i) i = _; unfold znO; rw [if_pos (.inl (by simpa using c50))]
      refine .hf c50 ?_; refine .hf c50 ?_; refine .hf c50 ?_; refine .hf c50 ?_; refine .x (OpSem.pickT rfl rfl c50 rfl) ?_; refine .sq <| .condT rfl rfl ?_; refine .u <| .u <| .b <| .y <| .x .ad ?_; refine .m ?_; refine .n <| .again (i + 1) (by omega) ?_ (by omega); exact .p2 <| .slot rfl (Le.bo (by rw [hst])) <| .p2 <| .slot rfl (Le.of_eq (by simp)) <| .memEq rfl (by rw [hst] <;> rfl) <| .nil
     ·refine .ht c50 ?_; refine .m ?_; refine .ht c50 ?_; refine .m ?_; refine .ht c50 ?_; refine .x (OpSem.idxo rfl rfl rfl rfl es75 (by omega) (by simp; omega)) ?_; refine .ht c50 ?_; refine .x (OpSem.loadq rfl rfl rfl vs4 (rows_get (by omega) (by omega)) rfl) ?_; refine .x (OpSem.pickF rfl rfl c50 rfl) ?_; refine .sq <| .cond rfl (fun c55 => ?_) (fun c55 => ?_)
      ·have hst : znP t cs u x.1 (i + 1) = (znP t cs u x.1 i) := by show znO t cs u (znP t cs u x.1 i) i = _; unfold znO; rw [if_pos (.inr (by simpa using c55))]
       refine .u <| .u <| .b <| .y <| .x .ad ?_; refine .m ?_; refine .n <| .again (i + 1) (by omega) ?_ (by omega); exact .p2 <| .slot rfl (Le.bo (by rw [hst])) <| .p2 <| .slot rfl (Le.of_eq (by simp)) <| .memEq rfl (by rw [hst] <;> rfl) <| .nil
      ·have hst : znP t cs u x.1 (i + 1) = znA (hdF t.facts u (nth t.ops i).pre) (nth t.ops i).add (znP t cs u x.1 i) (nth t.ops i).add.length := by show znO t cs u (znP t cs u x.1 i) i = _; unfold znO; rw [if_neg (fun h => h.elim (by simpa using c50) (by simpa using c55))]
       refine .p <| .z <| .x (.f fo41_1) ?_; refine .x (.l vs22) ?_; refine .x (.n es22) ?_; refine .m ?_; refine .sq <| .k <| .loop (X := Nat) (fun j => j ≤ (nth t.ops i).add.length) (fun j => [(0, .p [.v (.int .i64 t.facts), ints t.ini, ints t.goal, sopsD t.ops, ints s, ints cs, ints u]), (3, .o 16), (4, Bo ((znA (hdF t.facts u (nth t.ops i).pre) (nth t.ops i).add (znP t cs u x.1 i) j).2)), (7, I ((hdF t.facts u (nth t.ops i).pre))), (31, .d (sopsD t.ops)), (32, I (t.ops.length)), (33, I (i)), (57, .d (ints ((nth t.ops i).add))), (58, I (((nth t.ops i).add).length)), (59, I (j))]) (fun j => [(16, .own 1 4 (((znA (hdF t.facts u (nth t.ops i).pre) (nth t.ops i).add (znP t cs u x.1 i) j).1).map fun b => [D.v (.bool b)]))]) (fun j => (nth t.ops i).add.length - j) 0 (by omega) ?_ ?_
       ·exact .p2 <| .slot rfl (Le.bo rfl) <| .p5 <| .sl <| .slot rfl (Le.of_eq (by simp)) <| .memEq rfl rfl <| .nil
       ·rintro j hjl
        refine .g <| .r <| .x (.b blss) ?_; refine .sq <| .g <| .cond rfl (fun c60 => ?_) (fun c60 => ?_)
        ·have hj : j < (nth t.ops i).add.length := by simpa using c60
         have hpj := hadd j hj
         have hZl : (znA (hdF t.facts u (nth t.ops i).pre) (nth t.ops i).add (znP t cs u x.1 i) j).1.length = nF t := znA_len.trans hP
         refine .p <| .g <| .g <| .k <| .g <| .r <| .x (.i es22) ?_; refine .x (.l1 vs3) ?_; refine .a ?_; refine .z <| .mm ?_; refine .x (OpSem.idxo rfl rfl rfl rfl es75 (by omega) (by simp; omega)) ?_; refine .x (OpSem.loadq rfl rfl rfl vs4 (rows_get (by omega) (by omega)) rfl) ?_; refine .sq <| .cond rfl (fun c66 => ?_) (fun c66 => ?_)
         ·have hsj : znA (hdF t.facts u (nth t.ops i).pre) (nth t.ops i).add (znP t cs u x.1 i) (j + 1) = ((znA (hdF t.facts u (nth t.ops i).pre) (nth t.ops i).add (znP t cs u x.1 i) j).1.set (hdF t.facts u (nth t.ops i).pre).toNat true, true) := by simp only [znA]; rw [if_pos c66]
          refine .r <| .mm ?_; refine .x (OpSem.idxo rfl rfl rfl rfl es75 (by omega) (by simp; omega)) ?_; refine .storeq rfl rfl rfl rfl rfl rfl rfl vs4 (rows_get (by omega) (by omega)) (by simp) ?_; refine .a ?_; refine .n <| .n <| .y <| .x .ad ?_; refine .m ?_; refine .n <| .again (j + 1) (by omega) ?_ (by omega); exact .p2 <| .slot rfl (Le.bo (by rw [hsj])) <| .p5 <| .sl <| .slot rfl (Le.of_eq (by simp)) <| .memEq rfl (by rw [hsj]; exact congrArg (Mo.own 1 4) (rows_set (f := fun b => [D.v (.bool b)]))) <| .nil
         ·have hsj : znA (hdF t.facts u (nth t.ops i).pre) (nth t.ops i).add (znP t cs u x.1 i) (j + 1) = (znA (hdF t.facts u (nth t.ops i).pre) (nth t.ops i).add (znP t cs u x.1 i) j) := by simp only [znA]; rw [if_neg (by simpa using c66)]
          refine .p <| .n <| .y <| .x .ad ?_; refine .m ?_; refine .n <| .again (j + 1) (by omega) ?_ (by omega); exact .p2 <| .slot rfl (Le.bo (by rw [hsj])) <| .p5 <| .sl <| .slot rfl (Le.of_eq (by simp)) <| .memEq rfl (by rw [hsj] <;> rfl) <| .nil
        ·have hj : j = (nth t.ops i).add.length := by simp at c60; omega
         subst hj
         have hZl : (znA (hdF t.facts u (nth t.ops i).pre) (nth t.ops i).add (znP t cs u x.1 i) (nth t.ops i).add.length).1.length = nF t := znA_len.trans hP
         refine .u <| .u <| .u <| .b <| .n <| .y <| .x .ad ?_; refine .m ?_; refine .n <| .again (i + 1) (by omega) ?_ (by omega); exact .p2 <| .slot rfl (Le.bo (by rw [hst])) <| .p2 <| .slot rfl (Le.of_eq (by simp)) <| .memEq rfl (by rw [hst] <;> rfl) <| .nil
    ·have hi : i = t.ops.length := by simp at c34; omega
     subst hi
     refine .u <| .u <| .u <| .b <| .n <| .again (znP t cs u x.1 t.ops.length) ⟨(znP_p hV hC (Nat.le_refl _)).1, hI1, hI2⟩ ?_ (ps_lt (ps := (fun z => znP t cs u z t.ops.length)) (fun z hz => (znP_p hV hz (Nat.le_refl _)).2) hC c26); exact .p3 <| .memEq rfl rfl <| .nil
  ·have hW := hF c26
   refine .u <| .u <| .u <| .b <| .z <| .m ?_; refine .a ?_; exact .sq <| .t <| .retO2 rfl rfl rfl (by simp) (by rw [hW])
theorem lmcut_search_before_does (t : Tsk) (s cs u : List Int) (z : List Bool) (hV : TskV t) (hu : (u.length : Int) = t.facts + 1) (hs : ∀ p, p ∈ s → 0 ≤ p ∧ p < t.facts) (hsl : s.length ≤ 1000000) (hz : z.length = nF t) : DoesO Tryz.prog 81 [.p [.v (.int .i64 t.facts), ints t.ini, ints t.goal, sopsD t.ops, ints s, ints cs, ints u], .d (bools z)] 1 4 (((bfW t s u z).map fun b => [D.v (.bool b)])) := by
 have hf0 := hV.facts
 have hol := hV.ops
 have hn := nF_eq t
 refine DoesO.of_body Tryz.func81 rfl rfl (by simp) Tryz.call81 (fun w0 O0 => ?_); refine .le 1 fun len1 => ?_; refine .g <| .r <| .a ?_; refine .z <| .m ?_; refine .x (OpSem.nilp rfl rfl) ?_; refine .x (OpSem.fieldp rfl rfl fo97_0) ?_; refine .x (OpSem.fieldp rfl rfl fo25_0) ?_; refine .x (.l1 vs3) ?_; refine .x .ad ?_; refine .mk 19 es75 ze75 bye75 ?_; refine .a ?_; refine .sq <| .g <| .memEq (h := 19) (m' := .own 1 4 ((List.replicate (nF t) false).map fun b => [D.v (.bool b)])) rfl (by rw [el75, show (t.facts + 1).toNat = nF t from by rw [nF_eq]; omega]; first | (simp; done) | (simp; rfl)) ?_; refine .r <| .mm ?_; refine .x (OpSem.nilp rfl rfl) ?_; refine .x (OpSem.fieldp rfl rfl fo97_0) ?_; refine .x (OpSem.fieldp rfl rfl fo25_0) ?_; refine .x (.l1 vs3) ?_; refine .x (OpSem.idxo rfl rfl rfl rfl es75 (by omega) (by simp <;> omega)) ?_; refine .storeq rfl rfl rfl rfl rfl rfl rfl vs4 (rows_get (by omega) (by first | (simp; done) | (simp; omega))) (by simp) ?_; refine .sq <| .g <| .g <| .r <| .m ?_; refine .x (OpSem.nilp rfl rfl) ?_; refine .x (OpSem.fieldp rfl rfl fo97_1) ?_; refine .x (.l1 vs22) ?_; refine .x (.n es22) ?_; refine .m ?_; refine .sq <| .k <| .loop (X := Nat) (fun k => k ≤ s.length) (fun k => [(0, .p [.v (.int .i64 t.facts), ints t.ini, ints t.goal, sopsD t.ops, ints s, ints cs, ints u]), (1, .d (bools z)), (5, .o 19), (30, .d (ints s)), (31, I (s.length)), (32, I (k))]) (fun k => [(19, .own 1 4 ((bfI t s k).map fun b => [D.v (.bool b)]))]) (fun k => s.length - k) 0 (by omega) ?_ ?_
 ·exact .p5 <| .slot rfl (Le.of_eq (by simp)) <| .memEq rfl (by exact congrArg (Mo.own 1 4) (rows_set (f := fun b => [D.v (.bool b)]))) <| .nil
 ·rintro k hkl
  refine .g <| .r <| .x (.b blss) ?_; refine .sq <| .g <| .cond rfl (fun c33 => ?_) (fun c33 => ?_)
  ·have hk : k < s.length := by simpa using c33
   have hsk := hs _ (nth_mem (l := s) (n := k) (by omega) (by omega))
   have hbl := (bfI_at (t := t) hV hs (k := k) (by omega)).1
   refine .p <| .g <| .g <| .k <| .g <| .r <| .x (.i es22) ?_; refine .x (.l1 vs3) ?_; refine .a ?_; refine .y <| .mm ?_; refine .x (OpSem.idxo rfl rfl rfl rfl es75 (by omega) (by simp; omega)) ?_; refine .storeq rfl rfl rfl rfl rfl rfl rfl vs4 (rows_get (by omega) (by omega)) (by simp) ?_; refine .n <| .n <| .y <| .x .ad ?_; refine .m ?_; refine .n <| .again (k + 1) (by omega) ?_ (by omega); exact .p5 <| .slot rfl (Le.of_eq (by simp)) <| .memEq rfl (by exact congrArg (Mo.own 1 4) (rows_set (f := fun b => [D.v (.bool b)]))) <| .nil
  ·have hk : k = s.length := by simp at c33; omega
   subst hk
   refine .u <| .u <| .u <| .b <| .g <| .g <| .g <| .r <| .a ?_; refine .sq <| .k <| .loop (X := (List Bool × Bool)) (fun x => x.1.length = nF t ∧ (x.2 = true → PsR (fun b => bfP t u z b t.ops.length) x.1 (bfW t s u z)) ∧ (x.2 = false → x.1 = bfW t s u z)) (fun x => [(0, .p [.v (.int .i64 t.facts), ints t.ini, ints t.goal, sopsD t.ops, ints s, ints cs, ints u]), (1, .d (bools z)), (5, .o 19), (8, Bo (x.2))]) (fun x => [(19, .own 1 4 (x.1.map fun b => [D.v (.bool b)]))]) (fun x => ps_mu x) (bf0 t s, true) ⟨(bf0_at hV hs).1, fun _ => bfW_ok hV hs, fun h => by cases h⟩ ?_ ?_
   ·exact .p3 <| .sl <| .memEq rfl rfl <| .nil
   ·rintro x ⟨hC, hT, hF⟩
    refine .g <| .g <| .r <| .m ?_; refine .sq <| .cond rfl (fun c40 => ?_) (fun c40 => ?_)
    ·obtain ⟨hI1, hI2⟩ := (hT c40).inv
     refine .p <| .g <| .k <| .g <| .r <| .a ?_; refine .z <| .m ?_; refine .x (OpSem.nilp rfl rfl) ?_; refine .x (OpSem.fieldp rfl rfl fo97_0) ?_; refine .x (OpSem.fieldp rfl rfl fo25_3) ?_; refine .x (.l1 vs23) ?_; refine .x (.n es23) ?_; refine .m ?_; refine .sq <| .k <| .loop (X := Nat) (fun i => i ≤ t.ops.length) (fun i => [(0, .p [.v (.int .i64 t.facts), ints t.ini, ints t.goal, sopsD t.ops, ints s, ints cs, ints u]), (1, .d (bools z)), (5, .o 19), (8, Bo ((bfP t u z x.1 i).2)), (45, .d (sopsD t.ops)), (46, I (t.ops.length)), (47, I (i))]) (fun i => [(19, .own 1 4 (((bfP t u z x.1 i).1).map fun b => [D.v (.bool b)]))]) (fun i => t.ops.length - i) 0 (by omega) ?_ ?_
     ·exact .p3 <| .slot rfl (Le.bo rfl) <| .p2 <| .slot rfl (Le.of_eq (by simp)) <| .memEq rfl rfl <| .nil
     ·rintro i hil
      refine .g <| .r <| .x (.b blss) ?_; refine .sq <| .g <| .cond rfl (fun c48 => ?_) (fun c48 => ?_)
      ·have hi : i < t.ops.length := by simpa using c48
       have hP := (bfP_p (u := u) (z := z) hV hC (i := i) (by omega)).1
       have hpre := (hV.op i hi).1.1
       have hadd := set_rng (hV.op i hi).1.2.1
       have hadl := setP_len (hV.op i hi).1.2.1 hf0.2
       have hhp := hd_in (u := u) hV hpre
       refine .p <| .g <| .g <| .k <| .g <| .r <| .x (.i es23) ?_; refine .x (.lN vs41) ?_; refine .al 10 zc41 ?_; refine .sb vs41 ?_; refine .sq <| .g <| .g <| .r <| .mm ?_; refine .x (.f fo41_0) ?_; refine .x (.l vs22) ?_; refine .x (OpSem.call0 (lmcut_search_hardest_does t s cs u (nth t.ops i).pre hV hu hpre) rfl rfl rfl rfl (Les.refl _)) ?_; refine .x (OpSem.idxo rfl rfl rfl rfl es75 (by omega) (by simp; omega)) ?_; refine .x (OpSem.loadq rfl rfl rfl vs4 (rows_get (by omega) (by omega)) rfl) ?_; refine .x .nt ?_; refine .sq <| .cond rfl (fun c58 => ?_) (fun c58 => ?_)
       ·have hst : bfP t u z x.1 (i + 1) = (bfP t u z x.1 i) := by show bfO t u z (bfP t u z x.1 i) i = _; unfold bfO; rw [if_pos (by simpa using c58)]
        refine .u <| .u <| .b <| .y <| .x .ad ?_; refine .m ?_; refine .n <| .again (i + 1) (by omega) ?_ (by omega); exact .p3 <| .slot rfl (Le.bo (by rw [hst])) <| .p2 <| .slot rfl (Le.of_eq (by simp)) <| .memEq rfl (by rw [hst] <;> rfl) <| .nil
       ·have hst : bfP t u z x.1 (i + 1) = bfA (nth t.ops i).add z (bfP t u z x.1 i) (nth t.ops i).add.length := by show bfO t u z (bfP t u z x.1 i) i = _; unfold bfO; rw [if_neg (by simpa using c58)]
        refine .p <| .z <| .x (.f fo41_1) ?_; refine .x (.l vs22) ?_; refine .x (.n es22) ?_; refine .m ?_; refine .sq <| .k <| .loop (X := Nat) (fun j => j ≤ (nth t.ops i).add.length) (fun j => [(0, .p [.v (.int .i64 t.facts), ints t.ini, ints t.goal, sopsD t.ops, ints s, ints cs, ints u]), (1, .d (bools z)), (5, .o 19), (8, Bo ((bfA (nth t.ops i).add z (bfP t u z x.1 i) j).2)), (45, .d (sopsD t.ops)), (46, I (t.ops.length)), (47, I (i)), (60, .d (ints ((nth t.ops i).add))), (61, I (((nth t.ops i).add).length)), (62, I (j))]) (fun j => [(19, .own 1 4 (((bfA (nth t.ops i).add z (bfP t u z x.1 i) j).1).map fun b => [D.v (.bool b)]))]) (fun j => (nth t.ops i).add.length - j) 0 (by omega) ?_ ?_
        ·exact .p3 <| .slot rfl (Le.bo rfl) <| .p5 <| .slot rfl (Le.of_eq (by simp)) <| .memEq rfl rfl <| .nil
        ·rintro j hjl
         refine .g <| .r <| .x (.b blss) ?_; refine .sq <| .g <| .cond rfl (fun c63 => ?_) (fun c63 => ?_)
         ·have hj : j < (nth t.ops i).add.length := by simpa using c63
          have hpj := hadd j hj
          have hZl : (bfA (nth t.ops i).add z (bfP t u z x.1 i) j).1.length = nF t := (bfA_p (bf_add hV hi) hP (j := j) (by omega)).1
          refine .p <| .g <| .g <| .k <| .g <| .r <| .x (.i es22) ?_; refine .x (.l1 vs3) ?_; refine .a ?_; refine .z <| .mm ?_; refine .x (OpSem.idxo rfl rfl rfl rfl es75 (by omega) (by simp; omega)) ?_; refine .x (OpSem.loadq rfl rfl rfl vs4 (rows_get (by omega) (by omega)) rfl) ?_; refine .x .nt ?_; refine .m ?_; refine .split (n := 71) rfl (fun c71 => ?_) (fun c71 => ?_)
          ·refine .gt c71 ?_; refine .m ?_; refine .gt c71 ?_; refine .m ?_; refine .gt c71 ?_; refine .x (.i es75) ?_; refine .gt c71 ?_; refine .x (.l1 vs4) ?_; refine .gt c71 ?_; refine .x .nt ?_; refine .x (OpSem.pickT rfl rfl c71 rfl) ?_; refine .sq <| .cond rfl (fun c77 => ?_) (fun c77 => ?_)
           ·have hsj : bfA (nth t.ops i).add z (bfP t u z x.1 i) (j + 1) = ((bfA (nth t.ops i).add z (bfP t u z x.1 i) j).1.set (nth (nth t.ops i).add j).toNat true, true) := by simp only [bfA]; rw [if_pos ⟨by simpa using c71, by simpa using c77⟩]
            refine .r <| .mm ?_; refine .x (OpSem.idxo rfl rfl rfl rfl es75 (by omega) (by simp; omega)) ?_; refine .storeq rfl rfl rfl rfl rfl rfl rfl vs4 (rows_get (by omega) (by omega)) (by simp) ?_; refine .a ?_; refine .n <| .n <| .y <| .x .ad ?_; refine .m ?_; refine .n <| .again (j + 1) (by omega) ?_ (by omega); exact .p3 <| .slot rfl (Le.bo (by rw [hsj])) <| .p5 <| .slot rfl (Le.of_eq (by simp)) <| .memEq rfl (by rw [hsj]; exact congrArg (Mo.own 1 4) (rows_set (f := fun b => [D.v (.bool b)]))) <| .nil
           ·have hsj : bfA (nth t.ops i).add z (bfP t u z x.1 i) (j + 1) = (bfA (nth t.ops i).add z (bfP t u z x.1 i) j) := by simp only [bfA]; rw [if_neg (fun h => by simp [h.2] at c77)]
            refine .p <| .n <| .y <| .x .ad ?_; refine .m ?_; refine .n <| .again (j + 1) (by omega) ?_ (by omega); exact .p3 <| .slot rfl (Le.bo (by rw [hsj])) <| .p5 <| .slot rfl (Le.of_eq (by simp)) <| .memEq rfl (by rw [hsj] <;> rfl) <| .nil
          ·have hsj : bfA (nth t.ops i).add z (bfP t u z x.1 i) (j + 1) = (bfA (nth t.ops i).add z (bfP t u z x.1 i) j) := by simp only [bfA]; rw [if_neg (fun h => by simp [h.1] at c71)]
           refine .gf c71 ?_; refine .gf c71 ?_; refine .gf c71 ?_; refine .gf c71 ?_; refine .gf c71 ?_; refine .x (OpSem.pickF rfl rfl c71 rfl) ?_; refine .sq <| .condF rfl rfl ?_; refine .p <| .n <| .y <| .x .ad ?_; refine .m ?_; refine .n <| .again (j + 1) (by omega) ?_ (by omega); exact .p3 <| .slot rfl (Le.bo (by rw [hsj])) <| .p5 <| .slot rfl (Le.of_eq (by simp)) <| .memEq rfl (by rw [hsj] <;> rfl) <| .nil
         ·have hj : j = (nth t.ops i).add.length := by simp at c63; omega
          subst hj
          refine .u <| .u <| .u <| .b <| .n <| .y <| .x .ad ?_; refine .m ?_; refine .n <| .again (i + 1) (by omega) ?_ (by omega); exact .p3 <| .slot rfl (Le.bo (by rw [hst])) <| .p2 <| .slot rfl (Le.of_eq (by simp)) <| .memEq rfl (by rw [hst] <;> rfl) <| .nil
      ·have hi : i = t.ops.length := by simp at c48; omega
       subst hi
       refine .u <| .u <| .u <| .b <| .n <| .again (bfP t u z x.1 t.ops.length) ⟨(bfP_p hV hC (Nat.le_refl _)).1, hI1, hI2⟩ ?_ (ps_lt (ps := (fun b => bfP t u z b t.ops.length)) (fun b hb => (bfP_p hV hb (Nat.le_refl _)).2) hC c40); exact .p3 <| .sl <| .memEq rfl rfl <| .nil
    ·have hW := hF c40
     refine .u <| .u <| .u <| .b <| .z <| .m ?_; refine .a ?_; exact .sq <| .t <| .retO2 rfl rfl rfl (by simp) (by rw [hW])
theorem lmcut_search_cut_does (t : Tsk) (s cs u : List Int) (hV : TskV t) (hu : (u.length : Int) = t.facts + 1) (hc : CsV t cs) (hs : ∀ p, p ∈ s → 0 ≤ p ∧ p < t.facts) (hsl : s.length ≤ 1000000) : Does Tryz.prog true 48 [.p [.v (.int .i64 t.facts), ints t.ini, ints t.goal, sopsD t.ops, ints s, ints cs, ints u]] (vecS (cutF t cs u (znW t cs u) (bfW t s u (znW t cs u)))) := by
 have hf0 := hV.facts
 have hol := hV.ops
 have hn := nF_eq t
 have hcl := hc.l
 have hzl := (zn_p (cs := cs) (u := u) hV).l
 have hbl := (bf_p (u := u) (z := (znW t cs u)) hV hs).l
 have hol := hV.ops
 refine Does.of_body Tryz.func48 rfl rfl (by simp) Tryz.call48 (fun w0 O0 => ?_); refine .g <| .r <| .al 2 zc55 ?_; refine .z <| .m ?_; refine .x (OpSem.call0 (lmcut_search_zone_does t s cs u hV hu hc).fresh rfl rfl rfl rfl (Les.refl _)) ?_; refine .a ?_; refine .z <| .mm ?_; refine .x (OpSem.call0 (lmcut_search_before_does t s cs u (znW t cs u) hV hu hs hsl hzl).fresh rfl rfl rfl rfl (Les.refl _)) ?_; refine .a ?_; refine .z <| .x (.bd pl55 zc55) ?_; refine .al 5 zc55 ?_; refine .sb vs55 ?_; refine .sq <| .g <| .g <| .ownNilBox 105 5 0 1 3 rfl rfl rfl ?_; refine .r <| .m ?_; refine .x (OpSem.nilp rfl rfl) ?_; refine .x (OpSem.fieldp rfl rfl fo97_0) ?_; refine .x (OpSem.fieldp rfl rfl fo25_3) ?_; refine .x (.l1 vs23) ?_; refine .x (.n es23) ?_; refine .m ?_; refine .sq <| .k <| .loop (X := Nat) (fun i => i ≤ t.ops.length) (fun i => [(0, .p [.v (.int .i64 t.facts), ints t.ini, ints t.goal, sopsD t.ops, ints s, ints cs, ints u]), (2, .r 2 0), (3, .d (bools (znW t cs u))), (4, .d (bools (bfW t s u (znW t cs u)))), (5, .r 5 0), (20, .d (sopsD t.ops)), (21, I (t.ops.length)), (22, I (i))]) (fun i => [(5, .box [.o 105, I ((cutT t cs u (znW t cs u) (bfW t s u (znW t cs u)) i).2)]), (105, .own 1 3 (((cutT t cs u (znW t cs u) (bfW t s u (znW t cs u)) i).1).map fun n => [D.v (.int .i64 n)])), (2, .box [.d (.v (.slice none 0 0)), I (0)])]) (fun i => t.ops.length - i) 0 (by omega) ?_ ?_
 ·exact .p5 <| .p2 <| .slot rfl (Le.of_eq (by simp)) <| .boxLe rfl (.cons (.refl _) <| .cons (Le.i rfl) <| .nil) <| .memEq rfl (by simp [cutT]) <| .mem rfl <| .nil
 ·rintro i hil
  refine .g <| .r <| .x (.b blss) ?_; refine .sq <| .g <| .cond rfl (fun c23 => ?_) (fun c23 => ?_)
  ·have hi : i < t.ops.length := by simpa using c23
   have hpre := (hV.op i hi).1.1
   have hadd := set_rng (hV.op i hi).1.2.1
   have hadl := setP_len (hV.op i hi).1.2.1 hf0.2
   have hhp := hd_in (u := u) hV hpre
   have hctl := cutT_le (t := t) (cs := cs) (u := u) (z := (znW t cs u)) (b := (bfW t s u (znW t cs u))) (k := i)
   refine .p <| .g <| .g <| .k <| .g <| .r <| .m ?_; refine .x (.i es23) ?_; refine .x (.lN vs41) ?_; refine .al 7 zc41 ?_; refine .a ?_; refine .sb vs41 ?_; refine .sq <| .g <| .g <| .r <| .mm ?_; refine .x (.f fo41_0) ?_; refine .x (.l vs22) ?_; refine .x (OpSem.call0 (lmcut_search_hardest_does t s cs u (nth t.ops i).pre hV hu hpre) rfl rfl rfl rfl (Les.refl _)) ?_; refine .x (.i es75) ?_; refine .x (.l1 vs4) ?_; refine .x .nt ?_; refine .sq <| .cond rfl (fun c34 => ?_) (fun c34 => ?_)
   ·have hst : (cutT t cs u (znW t cs u) (bfW t s u (znW t cs u)) (i + 1)) = (cutT t cs u (znW t cs u) (bfW t s u (znW t cs u)) i) := cut_f (fun h => by have := h.1; simp [this] at c34)
    refine .u <| .u <| .b <| .y <| .x .ad ?_; refine .m ?_; refine .n <| .again (i + 1) (by omega) ?_ (by omega); exact .p5 <| .p2 <| .slot rfl (Le.of_eq (by simp)) <| .boxLe rfl (.cons (.refl _) <| .cons (Le.i (by rw [hst])) <| .nil) <| .memEq rfl (by rw [hst] <;> rfl) <| .mem rfl <| .nil
   ·have hb0 : nth (bfW t s u (znW t cs u)) (hdF t.facts u (nth t.ops i).pre) = true := by simpa using c34
    refine .p <| .z <| .x (.f fo41_1) ?_; refine .x (.l vs22) ?_; refine .x (.n es22) ?_; refine .m ?_; refine .sq <| .k <| .loop (X := Nat) (fun j => j ≤ (nth t.ops i).add.length ∧ ∀ k : Nat, k < j → nth (znW t cs u) (nth (nth t.ops i).add k) = false) (fun j => [(0, .p [.v (.int .i64 t.facts), ints t.ini, ints t.goal, sopsD t.ops, ints s, ints cs, ints u]), (2, .r 2 0), (3, .d (bools (znW t cs u))), (4, .d (bools (bfW t s u (znW t cs u)))), (5, .r 5 0), (6, I (i)), (20, .d (sopsD t.ops)), (21, I (t.ops.length)), (22, I (i)), (36, .d (ints ((nth t.ops i).add))), (37, I (((nth t.ops i).add).length)), (38, I (j))]) (fun j => [(105, .own 1 3 (((cutT t cs u (znW t cs u) (bfW t s u (znW t cs u)) i).1).map fun n => [D.v (.int .i64 n)])), (2, .box [.d (.v (.slice none 0 0)), I (0)]), (5, .box [.o 105, I ((cutT t cs u (znW t cs u) (bfW t s u (znW t cs u)) i).2)])]) (fun j => (nth t.ops i).add.length - j) 0 ⟨by omega, fun k hk => by omega⟩ ?_ ?_
    ·exact .p5 <| .p5 <| .sl <| .slot rfl (Le.of_eq (by simp)) <| .all
    ·rintro j ⟨hjl, hno⟩
     refine .g <| .r <| .x (.b blss) ?_; refine .sq <| .g <| .cond rfl (fun c39 => ?_) (fun c39 => ?_)
     ·have hj : j < (nth t.ops i).add.length := by simpa using c39
      have hpj := hadd j hj
      refine .p <| .g <| .g <| .k <| .g <| .r <| .x (.i es22) ?_; refine .x (.l1 vs3) ?_; refine .a ?_; refine .z <| .mm ?_; refine .x (.i es75) ?_; refine .x (.l1 vs4) ?_; refine .sq <| .cond rfl (fun c45 => ?_) (fun c45 => ?_)
      ·have hst : (cutT t cs u (znW t cs u) (bfW t s u (znW t cs u)) (i + 1)) = _ := cut_t ⟨hb0, _, nth_mem (l := (nth t.ops i).add) (n := j) (by omega) (by omega), by simpa using c45⟩
       refine .g <| .r <| .x (.f fo55_0) ?_; refine .x (.l vs22) ?_; refine .m ?_; refine .x (.bs es22 ze22) ?_; refine .ap es22 el22 zc3 by3 ?_; refine .x (.f fo55_0) ?_; refine .sb vs22 ?_; refine .sq <| .g <| PC.start [] ?_; refine .x (.f fo55_1) ?_; refine .x (.l vs3) ?_; refine .m ?_; refine .x (OpSem.nilp rfl rfl) ?_; refine .x (OpSem.fieldp rfl rfl fo97_2) ?_; refine .x (.l1 vs22) ?_; refine .m ?_; refine .x (.i es22) ?_; refine .x (.l1 vs3) ?_; refine .x (OpSem.min2 rfl rfl rfl) ?_; refine .d0 mixed ?_; refine .x (.f fo55_1) ?_; refine .sb vs3 ?_; refine .sq <| .u <| .block_other (by decide) ?_; refine .u <| .u <| .b <| .n <| .y <| .x .ad ?_; refine .m ?_; refine .n <| .again (i + 1) (by omega) ?_ (by omega); exact .p5 <| .p2 <| .slot rfl (Le.of_eq (by simp)) <| .boxLe rfl (.cons (.refl _) <| .cons (Le.i (by rw [hst])) <| .nil) <| .memEq rfl (by rw [hst]; first | (simp; done) | (simp; rfl)) <| .mem rfl <| .nil
      ·have hb : nth (znW t cs u) (nth (nth t.ops i).add j) = false := by simpa using c45
       refine .p <| .n <| .y <| .x .ad ?_; refine .m ?_; refine .n <| .again (j + 1) ⟨by omega, all_succ hno hb⟩ ?_ (by omega); exact .p5 <| .p5 <| .sl <| .slot rfl (Le.of_eq (by simp)) <| .all
     ·have hj : j = (nth t.ops i).add.length := by simp at c39; omega
      have hst : (cutT t cs u (znW t cs u) (bfW t s u (znW t cs u)) (i + 1)) = (cutT t cs u (znW t cs u) (bfW t s u (znW t cs u)) i) := cut_f (fun h => cut_no (by subst hj; exact hno) h.2)
      refine .u <| .u <| .u <| .b <| .n <| .y <| .x .ad ?_; refine .m ?_; refine .n <| .again (i + 1) (by omega) ?_ (by omega); exact .p5 <| .p2 <| .slot rfl (Le.of_eq (by simp)) <| .boxLe rfl (.cons (.refl _) <| .cons (Le.i (by rw [hst])) <| .nil) <| .memEq rfl (by rw [hst] <;> rfl) <| .mem rfl <| .nil
  ·have hi : i = t.ops.length := by simp at c23; omega
   subst hi
   refine .u <| .u <| .u <| .b <| .z <| .x (.L vs55) ?_; refine .sb vs55 ?_; exact .sq <| .t <| .retG rfl rfl rfl vs55 rfl (by simp) rfl rfl
theorem lmcut_Find_does (t : Tsk) (s : List Int) (hV : TskV t) (hS : SetP t.facts s) : Does Tryz.prog false 22 [tskS t, .d (ints s)] (.t [.d (vecsD (fnW t s).1), I (fnW t s).2]) := by
 have hf0 := hV.facts
 have hol := hV.ops
 have hs : ∀ p, p ∈ s → 0 ≤ p ∧ p < t.facts := fun p hp => setP_mem hS hp
 have hsl := setP_len hS hf0.2
 refine Does.of_body Tryz.func22 rfl rfl (by simp) Tryz.call22 (fun w0 O0 => ?_); refine .lg 0 1 fun len0_1 => ?_; refine .lg 0 2 fun len0_2 => ?_; refine .lg 0 3 fun len0_3 => ?_; refine .le 1 fun len1 => ?_; refine .g <| .r <| .bx 2 ?_; refine .a ?_; refine .a ?_; refine .sq <| .g <| PC.start [] ?_; refine .x (.L vs25) ?_; refine .m ?_; refine .x (.L vs25) ?_; refine .semM (OpSem.callO 15 (relaxed_Costs_does t (by omega)) rfl rfl rfl rfl (Les.refl _)) rfl rfl ?_; refine .d1 15 (.own 1 3 ((cssF t).map fun n => [D.v (.int .i64 n)])) mixed ?_; refine .x (.bd pl97 zc97) ?_; refine .bx 17 ?_; refine .a ?_; refine .z <| .a ?_; refine .sq <| .g <| .ownNil (n := 7) 7 2 55 rfl ?_; refine .r <| .a ?_; refine .sq <| .k <| .loop (X := (List Int × List (List Int × Int) × Int)) (fun x => FnI t s x ∧ FnR t s x.1 x.2.1 x.2.2 (fnW t s)) (fun x => [(1, .d (ints s)), (2, .r 2 0), (6, .r 17 0), (7, .o 7), (8, I (x.2.2))]) (fun x => [(15, .own 1 3 (x.1.map fun n => [D.v (.int .i64 n)])), (17, .box [I (t.facts), .d (ints t.ini), .d (ints t.goal), .d (sopsD t.ops), .d (ints s), .o 15, .u]), (7, .own 2 55 (x.2.1.map vecC)), (2, .box [I (t.facts), .d (ints t.ini), .d (ints t.goal), .d (sopsD t.ops)])]) (fun x => x.1.sum.toNat) (cssF t, [], 0) ⟨fn_0 hV hs, fnW_ok hV hs⟩ ?_ ?_
 ·exact .p3 <| .sl <| .slot rfl (Le.of_eq rfl) <| .memEq rfl rfl <| .boxLe rfl (.cons (.refl _) <| .cons (.refl _) <| .cons (.refl _) <| .cons (.refl _) <| .cons (.refl _) <| .cons (.refl _) <| .cons (Le.u _) <| .nil) <| .memEq rfl (by simp) <| .mem rfl <| .nil
 ·rintro x ⟨hI, hr⟩
  refine .k <| .g ?_
  have hvl := hI.c.hm.vp.l
  have hul : ((exV (vM t s x.1)).length : Int) = t.facts + 1 := by simp; omega
  refine PC.start [] ?_; refine .m ?_; refine .x (.L vs25) ?_; refine .mm ?_; refine .x (OpSem.nilr rfl rfl) ?_; refine .x (.f fo97_2) ?_; refine .x (.l vs22) ?_; refine .semM (OpSem.callO 25 (relaxed_Values_does t s x.1 20 gmF (vM t s x.1) hV hI.c.cv gm_cmb hs (fun v f hv hf => relaxed_Greatest_does v f fun k hk => by have h1 := set_rng hf k hk; have h2 := hv.l; omega) (vlW_ok hV hI.c.cv gm_cmb hs)) rfl rfl rfl rfl (Les.refl _)) rfl rfl ?_; refine .x (.bs es22 ze22) ?_; refine .doneL1 9 0 25 (.own 1 3 ((vM t s x.1).map fun n => [D.v (.int .i64 n)])) mixed (by kernel_rfl) (by kernel_rfl) (by kernel_rfl) (by kernel_rfl) (by kernel_rfl) rfl rfl rfl rfl rfl (by repeat' (first | exact .nil | (apply DropR.hit; rfl) | (apply DropR.miss; rfl))) (by kernel_rfl) (by kernel_rfl) (by kernel_rfl) ?_ ?_
  ·refine .ap es22 el22 zc3 by3 ?_; refine .x (OpSem.nilr rfl rfl) ?_; refine .x (.f fo97_3) ?_; refine .sb vs22 ?_; refine .sq <| .g <| .g <| .memEq (h := 25) (m' := .own 1 3 ((exV (vM t s x.1)).map fun n => [D.v (.int .i64 n)])) rfl (by simp) ?_
   have hgg : gmF (exV (vM t s x.1)) t.goal = gM t s x.1 := gm_ex hvl hV.goal
   have hgr := hI.c.gr
   obtain ⟨hi1, hi2, hi3⟩ := hr.inv
   refine PC.start [] ?_; refine .m ?_; refine .x (OpSem.nilr rfl rfl) ?_; refine .x (.f fo97_3) ?_; refine .x (.l vs22) ?_; refine .x (.f fo25_2) ?_; refine .x (.l vs22) ?_; refine .d0 mixed ?_; refine .x (OpSem.call (relaxed_Greatest_does (exV (vM t s x.1)) t.goal (fun k hk => by have h1 := set_rng hV.goal k hk; omega)) (.inr rfl) rfl rfl rfl rfl (Les.refl _)) ?_; refine .sq <| .k <| .g <| .r <| .x (.b beql) ?_; refine .a ?_; refine .sq <| .cond rfl (fun c37 => ?_) (fun c37 => ?_)
   ·refine .g <| .freeze 7 rfl ?_; refine .r <| .mm ?_; refine .a ?_; refine .a ?_; exact .sq <| .t <| .k <| .t <| .k <| .t <| .k <| .ret rfl (.tmp rfl <| .tmp rfl <| .nil) rfl (Le.t (.cons (by rw [hi1 (by rw [← hgg]; simpa using c37)]; exact .refl _) <| .cons (Le.i (by rw [hi1 (by rw [← hgg]; simpa using c37)])) <| .nil))
   ·refine .g <| .r <| .x (.b beql) ?_; refine .a ?_; refine .sq <| .cond rfl (fun c41 => ?_) (fun c41 => ?_)
    ·refine .g <| .r <| .a ?_; refine .a ?_; exact .sq <| .t <| .k <| .t <| .k <| .t <| .k <| .ret rfl (.tmp rfl <| .tmp rfl <| .nil) rfl (Le.t (.cons (by rw [hi2 (by rw [← hgg]; simpa using c41)]; exact Le.nil 2) <| .cons (Le.i (by rw [hi2 (by rw [← hgg]; simpa using c41)])) <| .nil))
    ·refine .p <| .n <| .g <| .g ?_
     have g0 : gM t s x.1 ≠ 0 := by rw [← hgg]; simpa using c37
     have g1 : gM t s x.1 ≠ 1000000000 := by rw [← hgg]; simpa using c41
     obtain ⟨hN, hN2, hN3, hN4⟩ := hI.next g0 g1
     have hcl := hI.c.cv.l
     have hT := hI.T
     have hcs := hI.c.cv.sum
     have hTn := hI.n
     have hcrg := hI.c.crg
     have hccl : (cM t s x.1).1.length ≤ t.ops.length := cutT_le
     refine .r <| .m ?_; refine .x (OpSem.call (lmcut_search_cut_does t s x.1 (exV (vM t s x.1)) hV hul hI.c.cv hs hsl) (.inl rfl) rfl rfl rfl rfl (Les.refl _)) ?_; refine .al 9 zc55 ?_; refine .sb vs55 ?_; refine .sq <| .g <| .g <| .r <| .x (.f fo55_0) ?_; refine .x (.l vs22) ?_; refine .x (.n es22) ?_; refine .m ?_; refine .sq <| .k <| .loop (X := Nat) (fun k => k ≤ (cM t s x.1).1.length) (fun k => [(1, .d (ints s)), (2, .r 2 0), (6, .r 17 0), (7, .o 7), (8, I (x.2.2)), (9, .r 9 0), (46, .d (ints ((cM t s x.1).1))), (47, I (((cM t s x.1).1).length)), (48, I (k))]) (fun k => [(15, .own 1 3 ((csC x.1 (cM t s x.1).1 (cM t s x.1).2 k).map fun n => [D.v (.int .i64 n)])), (7, .own 2 55 (x.2.1.map vecC)), (2, .box [I (t.facts), .d (ints t.ini), .d (ints t.goal), .d (sopsD t.ops)]), (17, .box [I (t.facts), .d (ints t.ini), .d (ints t.goal), .d (sopsD t.ops), .d (ints s), .o 15, .o 25]), (9, .box [.d (ints ((cM t s x.1).1)), I ((cM t s x.1).2)])]) (fun k => (cM t s x.1).1.length - k) 0 (by omega) ?_ ?_
     ·exact .p5 <| .p3 <| .slot rfl (Le.of_eq (by simp)) <| .memEq rfl rfl <| .all
     ·rintro k hkl
      refine .g <| .r <| .x (.b blss) ?_; refine .sq <| .g <| .cond rfl (fun c49 => ?_) (fun c49 => ?_)
      ·have hk : k < (cM t s x.1).1.length := by simpa using c49
       have hck := hcrg _ (nth_mem (l := (cM t s x.1).1) (n := k) (by omega) (by omega))
       have hxr := csC_rng hI.c g0 g1 (k := k) (by omega) hck.1 hck.2
       refine .p <| .g <| .g <| .k <| .g <| .r <| .x (.i es22) ?_; refine .x (.l1 vs3) ?_; refine .a ?_; refine .sq <| PC.start [] ?_; refine .m ?_; refine .x (OpSem.nilr rfl rfl) ?_; refine .x (.f fo97_2) ?_; refine .x (.l vs22) ?_; refine .m ?_; refine .x (OpSem.idxo rfl rfl rfl rfl es22 (by omega) (by simp [csC_len]; omega)) ?_; refine .x (OpSem.loadq rfl rfl rfl vs3 (rows_get (by omega) (by rw [csC_len]; omega)) rfl) ?_; refine .x (.f fo55_1) ?_; refine .x (.l vs3) ?_; refine .x .su ?_; refine .d0 mixed ?_; refine .x (OpSem.idxo rfl rfl rfl rfl es22 (by omega) (by simp [csC_len]; omega)) ?_; refine .storeq rfl rfl rfl rfl rfl rfl rfl vs3 (rows_get (by omega) (by rw [csC_len]; omega)) (by simp) ?_; refine .n <| .n <| .y <| .x .ad ?_; refine .m ?_; refine .n <| .again (k + 1) (by omega) ?_ (by omega); exact .p5 <| .p3 <| .slot rfl (Le.of_eq (by simp)) <| .memEq rfl (by exact congrArg (Mo.own 1 3) (rows_set (f := fun n => [D.v (.int .i64 n)]))) <| .all
      ·have hk : k = (cM t s x.1).1.length := by simp at c49; omega
       subst hk
       refine .u <| .u <| .u <| .b <| .z <| .m ?_; refine .x (.L vs55) ?_; refine .x (.bs es32 ze32) ?_; refine .ap es32 el32 zc55 by55 ?_; refine .a ?_; refine .y <| .m ?_; refine .x (.f fo55_1) ?_; refine .x (.l vs3) ?_; refine .x .ad ?_; refine .a ?_; refine .n <| .n <| .again (csM t s x.1, x.2.1 ++ [cM t s x.1], x.2.2 + (cM t s x.1).2) ⟨hN, hi3 g0 g1⟩ ?_ hN2; exact .p5 <| .memEq rfl rfl <| .boxLe rfl (.cons (.refl _) <| .cons (.refl _) <| .cons (.refl _) <| .cons (.refl _) <| .cons (.refl _) <| .cons (.refl _) <| .cons (Le.u _) <| .nil) <| .memEq rfl (by simp) <| .mem rfl <| .nil
  ·refine .ap es22 el22 zc3 by3 ?_; refine .m ?_; refine .x (OpSem.nilr rfl rfl) ?_; refine .x (.f fo97_3) ?_; refine .sb vs22 ?_; refine .sq <| .g <| .g <| .memEq (h := 25) (m' := .own 1 3 ((exV (vM t s x.1)).map fun n => [D.v (.int .i64 n)])) rfl (by simp) ?_
   have hgg : gmF (exV (vM t s x.1)) t.goal = gM t s x.1 := gm_ex hvl hV.goal
   have hgr := hI.c.gr
   obtain ⟨hi1, hi2, hi3⟩ := hr.inv
   refine PC.start [] ?_; refine .m ?_; refine .x (OpSem.nilr rfl rfl) ?_; refine .x (.f fo97_3) ?_; refine .x (.l vs22) ?_; refine .x (.f fo25_2) ?_; refine .x (.l vs22) ?_; refine .d0 mixed ?_; refine .x (OpSem.call (relaxed_Greatest_does (exV (vM t s x.1)) t.goal (fun k hk => by have h1 := set_rng hV.goal k hk; omega)) (.inr rfl) rfl rfl rfl rfl (Les.refl _)) ?_; refine .sq <| .k <| .g <| .r <| .x (.b beql) ?_; refine .a ?_; refine .sq <| .cond rfl (fun c37 => ?_) (fun c37 => ?_)
   ·refine .g <| .freeze 7 rfl ?_; refine .r <| .mm ?_; refine .a ?_; refine .a ?_; exact .sq <| .t <| .k <| .t <| .k <| .t <| .k <| .ret rfl (.tmp rfl <| .tmp rfl <| .nil) rfl (Le.t (.cons (by rw [hi1 (by rw [← hgg]; simpa using c37)]; exact .refl _) <| .cons (Le.i (by rw [hi1 (by rw [← hgg]; simpa using c37)])) <| .nil))
   ·refine .g <| .r <| .x (.b beql) ?_; refine .a ?_; refine .sq <| .cond rfl (fun c41 => ?_) (fun c41 => ?_)
    ·refine .g <| .r <| .a ?_; refine .a ?_; exact .sq <| .t <| .k <| .t <| .k <| .t <| .k <| .ret rfl (.tmp rfl <| .tmp rfl <| .nil) rfl (Le.t (.cons (by rw [hi2 (by rw [← hgg]; simpa using c41)]; exact Le.nil 2) <| .cons (Le.i (by rw [hi2 (by rw [← hgg]; simpa using c41)])) <| .nil))
    ·refine .p <| .n <| .g <| .g ?_
     have g0 : gM t s x.1 ≠ 0 := by rw [← hgg]; simpa using c37
     have g1 : gM t s x.1 ≠ 1000000000 := by rw [← hgg]; simpa using c41
     obtain ⟨hN, hN2, hN3, hN4⟩ := hI.next g0 g1
     have hcl := hI.c.cv.l
     have hT := hI.T
     have hcs := hI.c.cv.sum
     have hTn := hI.n
     have hcrg := hI.c.crg
     have hccl : (cM t s x.1).1.length ≤ t.ops.length := cutT_le
     refine .r <| .m ?_; refine .x (OpSem.call (lmcut_search_cut_does t s x.1 (exV (vM t s x.1)) hV hul hI.c.cv hs hsl) (.inl rfl) rfl rfl rfl rfl (Les.refl _)) ?_; refine .al 9 zc55 ?_; refine .sb vs55 ?_; refine .sq <| .g <| .g <| .r <| .x (.f fo55_0) ?_; refine .x (.l vs22) ?_; refine .x (.n es22) ?_; refine .m ?_; refine .sq <| .k <| .loop (X := Nat) (fun k => k ≤ (cM t s x.1).1.length) (fun k => [(1, .d (ints s)), (2, .r 2 0), (6, .r 17 0), (7, .o 7), (8, I (x.2.2)), (9, .r 9 0), (46, .d (ints ((cM t s x.1).1))), (47, I (((cM t s x.1).1).length)), (48, I (k))]) (fun k => [(15, .own 1 3 ((csC x.1 (cM t s x.1).1 (cM t s x.1).2 k).map fun n => [D.v (.int .i64 n)])), (7, .own 2 55 (x.2.1.map vecC)), (2, .box [I (t.facts), .d (ints t.ini), .d (ints t.goal), .d (sopsD t.ops)]), (17, .box [I (t.facts), .d (ints t.ini), .d (ints t.goal), .d (sopsD t.ops), .d (ints s), .o 15, .o 25]), (9, .box [.d (ints ((cM t s x.1).1)), I ((cM t s x.1).2)])]) (fun k => (cM t s x.1).1.length - k) 0 (by omega) ?_ ?_
     ·exact .p5 <| .p3 <| .slot rfl (Le.of_eq (by simp)) <| .memEq rfl rfl <| .all
     ·rintro k hkl
      refine .g <| .r <| .x (.b blss) ?_; refine .sq <| .g <| .cond rfl (fun c49 => ?_) (fun c49 => ?_)
      ·have hk : k < (cM t s x.1).1.length := by simpa using c49
       have hck := hcrg _ (nth_mem (l := (cM t s x.1).1) (n := k) (by omega) (by omega))
       have hxr := csC_rng hI.c g0 g1 (k := k) (by omega) hck.1 hck.2
       refine .p <| .g <| .g <| .k <| .g <| .r <| .x (.i es22) ?_; refine .x (.l1 vs3) ?_; refine .a ?_; refine .sq <| PC.start [] ?_; refine .m ?_; refine .x (OpSem.nilr rfl rfl) ?_; refine .x (.f fo97_2) ?_; refine .x (.l vs22) ?_; refine .m ?_; refine .x (OpSem.idxo rfl rfl rfl rfl es22 (by omega) (by simp [csC_len]; omega)) ?_; refine .x (OpSem.loadq rfl rfl rfl vs3 (rows_get (by omega) (by rw [csC_len]; omega)) rfl) ?_; refine .x (.f fo55_1) ?_; refine .x (.l vs3) ?_; refine .x .su ?_; refine .d0 mixed ?_; refine .x (OpSem.idxo rfl rfl rfl rfl es22 (by omega) (by simp [csC_len]; omega)) ?_; refine .storeq rfl rfl rfl rfl rfl rfl rfl vs3 (rows_get (by omega) (by rw [csC_len]; omega)) (by simp) ?_; refine .n <| .n <| .y <| .x .ad ?_; refine .m ?_; refine .n <| .again (k + 1) (by omega) ?_ (by omega); exact .p5 <| .p3 <| .slot rfl (Le.of_eq (by simp)) <| .memEq rfl (by exact congrArg (Mo.own 1 3) (rows_set (f := fun n => [D.v (.int .i64 n)]))) <| .all
      ·have hk : k = (cM t s x.1).1.length := by simp at c49; omega
       subst hk
       refine .u <| .u <| .u <| .b <| .z <| .m ?_; refine .x (.L vs55) ?_; refine .x (.bs es32 ze32) ?_; refine .ap es32 el32 zc55 by55 ?_; refine .a ?_; refine .y <| .m ?_; refine .x (.f fo55_1) ?_; refine .x (.l vs3) ?_; refine .x .ad ?_; refine .a ?_; refine .n <| .n <| .again (csM t s x.1, x.2.1 ++ [cM t s x.1], x.2.2 + (cM t s x.1).2) ⟨hN, hi3 g0 g1⟩ ?_ hN2; exact .p5 <| .memEq rfl rfl <| .boxLe rfl (.cons (.refl _) <| .cons (.refl _) <| .cons (.refl _) <| .cons (.refl _) <| .cons (.refl _) <| .cons (.refl _) <| .cons (Le.u _) <| .nil) <| .memEq rfl (by simp) <| .mem rfl <| .nil
theorem lmcut_Cuts_does (t : Tsk) (s : List Int) : Does Tryz.prog false 7 [tskS t, .d (ints s)] (.t [.d (vecsD (cutW t s).1), I (cutW t s).2, flt (sttF t s)]) := by
 refine Does.of_body Tryz.func7 rfl rfl (by simp) Tryz.call7 (fun w0 O0 => ?_); refine .lg 0 1 fun len0_1 => ?_; refine .lg 0 2 fun len0_2 => ?_; refine .lg 0 3 fun len0_3 => ?_; refine .le 1 fun len1 => ?_; refine .g <| .r <| .bx 2 ?_; refine .a ?_; refine .a ?_; refine .al 6 zc28 ?_; refine .sq <| .g <| .g <| .r <| .x (.L vs25) ?_; refine .m ?_; refine .x (OpSem.call0 (strips_StateFault_does t s) rfl rfl rfl rfl (Les.refl _)) ?_; refine .al 7 zc28 ?_; refine .sb vs28 ?_; refine .z <| .x (.L vs28) ?_; refine .x (.bd pl28 zc28) ?_; refine .x (OpSem.neS2 rfl rfl rfl io28) ?_; refine .sq <| .cond rfl (fun c15 => ?_) (fun c15 => ?_)
 ·have hne : sttF t s ≠ (0, 0) := fun h => by simp [h] at c15
  refine .g <| PC.start [] ?_; refine .x (.L vs28) ?_; refine .x (OpSem.move (.inr rfl) rfl) ?_; refine .x (OpSem.move (.inr rfl) rfl) ?_; refine .d0 mixed ?_; refine .sb vs28 ?_; exact .sq <| .t <| .t <| .ret rfl (.tmp rfl <| .tmp rfl <| .cellN rfl rfl vs28 <| .nil) rfl (Le.t (.cons (by rw [cutW_1 hne]; exact Le.nil 2) <| .cons (Le.i (by rw [cutW_1 hne])) <| .cons (.refl _) <| .nil))
 ·have h0 : sttF t s = (0, 0) := pair0 (by simpa using c15)
  obtain ⟨hV, hS⟩ := sttF_ok h0
  refine .p <| .z <| .x (.L vs25) ?_; refine .m ?_; refine .x (OpSem.call0 (lmcut_Find_does t s hV hS) rfl rfl rfl rfl (Les.refl _)) ?_; refine .m ?_; refine .x .xt ?_; refine .x .xt ?_; refine .a ?_; refine .a ?_; refine .z <| .mm ?_; refine .x (.bd pl28 zc28) ?_; refine .a ?_; refine .a ?_; refine .sb vs28 ?_; exact .sq <| .t <| .ret rfl (.tmp rfl <| .tmp rfl <| .cellN rfl rfl vs28 <| .nil) rfl (Le.t (.cons (by rw [cutW_0 h0]; exact .refl _) <| .cons (Le.i (by rw [cutW_0 h0])) <| .cons (Le.flt h0.symm) <| .nil))
end Go.Proofs.YthjmgcopfipabaaGreat
end
