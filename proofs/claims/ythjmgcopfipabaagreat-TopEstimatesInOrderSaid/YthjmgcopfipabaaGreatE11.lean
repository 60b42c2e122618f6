/- Part 11. -/
import Derived.Test.YthjmgcopfipabaaGreatE10
import Derived.ProofKit
import Derived.OpenShut
import Derived.ChangeOld
import Derived.Below
import Derived.Deep.Slices
set_option linter.unusedSimpArgs false
set_option linter.unnecessarySimpa false
set_option linter.unusedVariables false
set_option linter.unusedSectionVars false
section
namespace Go.Eng
def celx (v : Mxx) (p q : Int) : Int := nth (nth v p) q
def vaJ (v : Mxx) (set : List Int) (p x : Int) : Nat → Int
 | 0 => x
 | j + 1 => max (vaJ v set p x j) (celx v p (nth set j))
def vaI (v : Mxx) (set : List Int) : Nat → Int
 | 0 => 0
 | i + 1 => vaJ v set (nth set i) (vaI v set i) (i + 1)
def vaF (v : Mxx) (set : List Int) : Int := vaI v set set.length
def st1 (v : Mxx) (p q x : Int) : Mxx := v.set p.toNat ((nth v p).set q.toNat x)
def st2 (v : Mxx) (p q x : Int) : Mxx := st1 (st1 v p q x) q p x
def stP (v : Mxx) (p q x : Int) : Mxx × Bool := if celx v p q ≤ x then (v, false) else (st2 v p q x, true)
def orB (y : Mxx × Bool) (b : Bool) : Mxx × Bool := (y.1, y.2 || b)
def usA (c : Int) (add : List Int) (p : Int) (x : Mxx × Bool) : Nat → Mxx × Bool
 | 0 => x
 | j + 1 => orB (stP (usA c add p x j).1 p (nth add j) c) (usA c add p x j).2
def usV (o : SOp) (v : Mxx) (q : Int) : Int := plusI (vaF v (upS o.pre [q] [])) o.cost
def usB (o : SOp) (p : Int) (x : Mxx × Bool) : Nat → Mxx × Bool
 | 0 => x
 | q + 1 => if (q : Int) ∈ o.add ∨ (q : Int) ∈ o.del then usB o p x q else orB (stP (usB o p x q).1 p q (usV o (usB o p x q).1 q)) (usB o p x q).2
def usP (n : Nat) (c : Int) (o : SOp) (x : Mxx × Bool) : Nat → Mxx × Bool
 | 0 => x
 | k + 1 => usB o (nth o.add k) (usA c o.add (nth o.add k) (usP n c o x k) o.add.length) n
def usF (n : Nat) (o : SOp) (v : Mxx) : Mxx × Bool := usP n (plusI (vaF v o.pre) o.cost) o (v, false) o.add.length
def fdP (t : Tsk) (v : Mxx) : Nat → Mxx × Bool
 | 0 => (v, false)
 | i + 1 => orB (usF t.facts.toNat (nth t.ops i) (fdP t v i).1) (fdP t v i).2
inductive FdR (t : Tsk) : Mxx → Mxx → Prop
 | done {v : Mxx} : (fdP t v t.ops.length).2 = false → FdR t v (fdP t v t.ops.length).1
 | step {v w : Mxx} : (fdP t v t.ops.length).2 = true → FdR t (fdP t v t.ops.length).1 w → FdR t v w
theorem FdR.inv {t : Tsk} {v w : Mxx} (h : FdR t v w) : ((fdP t v t.ops.length).2 = true → FdR t (fdP t v t.ops.length).1 w) ∧ ((fdP t v t.ops.length).2 = false → (fdP t v t.ops.length).1 = w) := by
 cases h with
 | done h => exact ⟨fun h2 => (by rw [h] at h2; cases h2), fun _ => rfl⟩
 | step h hr => exact ⟨fun _ => hr, fun h2 => (by rw [h] at h2; cases h2)⟩
def fdC (s : List Int) (p q : Int) : Int := if p ∈ s ∧ q ∈ s then 0 else 1000000000
def fdW (s : List Int) (n : Nat) (p : Int) (k : Nat) : List Int := (List.range n).map fun (q : Nat) => if q < k then fdC s p q else 0
def fdI (s : List Int) (n i : Nat) : Mxx := (List.range i).map fun (p : Nat) => fdW s n p n
def fd0 (t : Tsk) (s : List Int) : Mxx := fdI s t.facts.toNat t.facts.toNat
section
variable {s : List Int} {n : Nat}
theorem fdW_len {p : Int} {k : Nat} : (fdW s n p k).length = n := by simp [fdW]
theorem fdI_len {i : Nat} : (fdI s n i).length = i := by simp [fdI]
theorem fdI_s {i : Nat} : fdI s n (i + 1) = fdI s n i ++ [fdW s n i n] := by simp [fdI, List.range_succ]
theorem fdW_0 {p : Int} : fdW s n p 0 = List.replicate n 0 := by
 apply List.ext_getElem (by simp [fdW]); intro i h1 h2; simp [fdW]
theorem fdW_s1 {p : Int} {k : Nat} (h : ¬ (p ∈ s ∧ (k : Int) ∈ s)) (hk : k < n) : (fdW s n p k).set k 1000000000 = fdW s n p (k + 1) := by
 apply List.ext_getElem (by simp [fdW])
 intro i h1 h2
 rw [List.getElem_set]
 simp only [fdW, List.getElem_map, List.getElem_range]
 by_cases hi : k = i
 ·subst hi; rw [if_pos rfl, if_pos (by omega)]; unfold fdC; rw [if_neg h]
 ·rw [if_neg hi]
  by_cases h3 : i < k
  ·rw [if_pos h3, if_pos (by omega)]
  ·rw [if_neg h3, if_neg (by omega)]
theorem fdW_s2 {p : Int} {k : Nat} (h : p ∈ s ∧ (k : Int) ∈ s) : fdW s n p k = fdW s n p (k + 1) := by
 apply List.ext_getElem (by simp [fdW])
 intro i h1 h2
 simp only [fdW, List.getElem_map, List.getElem_range]
 by_cases hi : k = i
 ·subst hi; rw [if_neg (by omega), if_pos (by omega)]; unfold fdC; rw [if_pos h]
 ·by_cases h3 : i < k
  ·rw [if_pos h3, if_pos (by omega)]
  ·rw [if_neg h3, if_neg (by omega)]
theorem fdI_at {i : Nat} {row : List Int} : nth (fdI s n i ++ [row]) (i : Int) = row := by
 rw [nth_eq (by simp [fdI_len]), List.getElem_append_right (by rw [fdI_len]; omega)]; simp [fdI_len]
theorem fdI_set {i : Nat} {row r2 : List Int} : (fdI s n i ++ [row]).set i r2 = fdI s n i ++ [r2] := by
 rw [List.set_append_right _ _ (by rw [fdI_len]; omega)]; simp [fdI_len]
theorem fdI_cel {i j : Nat} (hi : i < n) (hj : j < n) : celx (fdI s n n) i j = fdC s i j := by
 unfold celx fdI
 rw [nth_rangeMap hi]
 unfold fdW
 rw [nth_rangeMap hj, if_pos hj]
end
structure PtI (n : Nat) (A : Int → Int) (v : Mxx) : Prop where
 l : v.length = n
 w : ∀ i : Nat, i < n → (nth v i).length = n
 r : ∀ p q : Int, 0 ≤ p → p < n → 0 ≤ q → q < n → 0 ≤ celx v p q ∧ celx v p q ≤ 1000000000 ∧ celx v p q = celx v q p ∧ A p ≤ celx v p q
def msum (v : Mxx) : Nat := (v.map fun r => (r.map Int.toNat).sum).sum
structure Dc (x y : Mxx × Bool) : Prop where
 le : msum y.1 ≤ msum x.1
 lt : y.2 = true → x.2 = true ∨ msum y.1 < msum x.1
theorem Dc.refl {x : Mxx × Bool} : Dc x x := ⟨Nat.le_refl _, .inl⟩
theorem Dc.trans {x y z : Mxx × Bool} (h : Dc x y) (k : Dc y z) : Dc x z := ⟨Nat.le_trans k.le h.le, fun e => (k.lt e).elim (fun e2 => (h.lt e2).imp id fun h3 => Nat.lt_of_le_of_lt k.le h3) fun h3 => .inr (Nat.lt_of_lt_of_le h3 h.le)⟩
theorem sum_setN : ∀ {l : List Nat} {i x : Nat} (h : i < l.length), (l.set i x).sum + l[i] = l.sum + x
 | a :: l, 0, x, _ => by simp; omega
 | a :: l, i + 1, x, h => by
  have := sum_setN (l := l) (i := i) (x := x) (by simpa using h)
  simp; omega
section
variable {n : Nat} {A : Int → Int} {v : Mxx}
theorem st1_cel (hl : v.length = n) (hw : ∀ i : Nat, i < n → (nth v i).length = n) {p q x i j : Int} (p0 : 0 ≤ p) (p1 : p < n) (q0 : 0 ≤ q) (q1 : q < n) (i0 : 0 ≤ i) (i1 : i < n) (j0 : 0 ≤ j) (j1 : j < n) : celx (st1 v p q x) i j = if i = p ∧ j = q then x else celx v i j := by
 obtain ⟨a, rfl⟩ := Int.eq_ofNat_of_zero_le p0
 obtain ⟨b, rfl⟩ := Int.eq_ofNat_of_zero_le q0
 obtain ⟨c, rfl⟩ := Int.eq_ofNat_of_zero_le i0
 obtain ⟨d, rfl⟩ := Int.eq_ofNat_of_zero_le j0
 have h1 := hw a (by omega)
 unfold celx st1
 rw [nth_set (by omega) (by omega)]
 by_cases hc : c = a
 ·subst hc
  rw [if_pos (by omega), nth_set (by omega) (by omega)]
  by_cases hd : d = b
  ·subst hd; rw [if_pos (by omega), if_pos ⟨rfl, rfl⟩]
  ·rw [if_neg (by omega), if_neg (by omega)]
 ·rw [if_neg (by omega), if_neg (by omega)]
theorem st1_len {p q x : Int} : (st1 v p q x).length = v.length := by simp [st1]
theorem st1_w (hl : v.length = n) (hw : ∀ i : Nat, i < n → (nth v i).length = n) {p q x : Int} (p0 : 0 ≤ p) (p1 : p < n) : ∀ i : Nat, i < n → (nth (st1 v p q x) i).length = n := fun i hi => by
 obtain ⟨a, rfl⟩ := Int.eq_ofNat_of_zero_le p0
 unfold st1
 rw [nth_set (by omega) (by omega)]
 split
 ·rw [List.length_set]; exact hw a (by omega)
 ·exact hw i hi
theorem st1_sum (hl : v.length = n) (hw : ∀ i : Nat, i < n → (nth v i).length = n) {p q x : Int} (p0 : 0 ≤ p) (p1 : p < n) (q0 : 0 ≤ q) (q1 : q < n) : msum (st1 v p q x) + (celx v p q).toNat = msum v + x.toNat := by
 obtain ⟨a, rfl⟩ := Int.eq_ofNat_of_zero_le p0
 obtain ⟨b, rfl⟩ := Int.eq_ofNat_of_zero_le q0
 have ha : a < v.length := by omega
 have h1 := hw a (by omega)
 have hb : b < (nth v (a : Int)).length := by omega
 have e1 := sum_setN (l := v.map fun r => (r.map Int.toNat).sum) (i := a) (x := (((nth v (a : Int)).set b x).map Int.toNat).sum) (by simpa using ha)
 have e2 := sum_setN (l := (nth v (a : Int)).map Int.toNat) (i := b) (x := x.toNat) (by simpa using hb)
 have e3 : msum (st1 v a b x) = ((v.map fun r => (r.map Int.toNat).sum).set a ((((nth v (a : Int)).set b x).map Int.toNat).sum)).sum := by unfold msum st1; rw [List.map_set]; rfl
 have e4 : (v.map fun r => (r.map Int.toNat).sum)[a]'(by simpa using ha) = ((nth v (a : Int)).map Int.toNat).sum := by rw [List.getElem_map, nth_eq ha]
 have e5 : ((nth v (a : Int)).map Int.toNat)[b]'(by simpa using hb) = (celx v a b).toNat := by rw [List.getElem_map]; unfold celx; rw [nth_eq hb]
 rw [e4] at e1
 rw [e5, ← List.map_set] at e2
 have e6 : msum v = (v.map fun r => (r.map Int.toNat).sum).sum := rfl
 rw [e3, e6]; omega
theorem PtI.st2 (h : PtI n A v) {p q x : Int} (p0 : 0 ≤ p) (p1 : p < n) (q0 : 0 ≤ q) (q1 : q < n) (hx : 0 ≤ x ∧ x ≤ 1000000000) (ha : A p ≤ x ∧ A q ≤ x) (hlt : x < celx v p q) : PtI n A (Go.Eng.st2 v p q x) ∧ msum (Go.Eng.st2 v p q x) < msum v := by
 have hl1 : (st1 v p q x).length = n := by rw [st1_len]; exact h.l
 have hw1 := st1_w (x := x) (q := q) h.l h.w p0 p1
 have hc : ∀ i j : Int, 0 ≤ i → i < n → 0 ≤ j → j < n → celx (Go.Eng.st2 v p q x) i j = if (i = p ∧ j = q) ∨ (i = q ∧ j = p) then x else celx v i j := fun i j i0 i1 j0 j1 => by
  unfold Go.Eng.st2
  rw [st1_cel hl1 hw1 q0 q1 p0 p1 i0 i1 j0 j1, st1_cel h.l h.w p0 p1 q0 q1 i0 i1 j0 j1]
  by_cases e1 : i = q ∧ j = p
  ·rw [if_pos e1, if_pos (.inr e1)]
  ·rw [if_neg e1]
   by_cases e2 : i = p ∧ j = q
   ·rw [if_pos e2, if_pos (.inl e2)]
   ·rw [if_neg e2, if_neg (fun e => e.elim e2 e1)]
 refine ⟨⟨by unfold Go.Eng.st2; rw [st1_len]; exact hl1, st1_w hl1 hw1 q0 q1, fun i j i0 i1 j0 j1 => ?_⟩, ?_⟩
 ·rw [hc i j i0 i1 j0 j1, hc j i j0 j1 i0 i1]
  by_cases e : (i = p ∧ j = q) ∨ (i = q ∧ j = p)
  ·rw [if_pos e, if_pos (e.elim (fun e => .inr ⟨e.2, e.1⟩) (fun e => .inl ⟨e.2, e.1⟩))]
   refine ⟨hx.1, hx.2, rfl, ?_⟩
   rcases e with e | e <;> rw [e.1]
   ·exact ha.1
   ·exact ha.2
  ·rw [if_neg e, if_neg (fun e2 => e (e2.elim (fun e => .inr ⟨e.2, e.1⟩) (fun e => .inl ⟨e.2, e.1⟩)))]
   exact h.r i j i0 i1 j0 j1
 ·have s1 := st1_sum h.l h.w (x := x) p0 p1 q0 q1
  have s2 := st1_sum hl1 hw1 (x := x) q0 q1 p0 p1
  have hr := h.r p q p0 p1 q0 q1
  rw [st1_cel h.l h.w p0 p1 q0 q1 q0 q1 p0 p1] at s2
  unfold Go.Eng.st2
  by_cases e : q = p ∧ p = q
  ·rw [if_pos e] at s2; omega
  ·rw [if_neg e, ← hr.2.2.1] at s2; omega
theorem PtI.stP (h : PtI n A v) {p q x : Int} {b : Bool} (p0 : 0 ≤ p) (p1 : p < n) (q0 : 0 ≤ q) (q1 : q < n) (hx : 0 ≤ x ∧ x ≤ 1000000000) (ha : A p ≤ x ∧ A q ≤ x) : PtI n A (orB (Go.Eng.stP v p q x) b).1 ∧ Dc (v, b) (orB (Go.Eng.stP v p q x) b) := by
 unfold Go.Eng.stP orB
 split
 ·exact ⟨h, ⟨Nat.le_refl _, fun e => .inl (by simpa using e)⟩⟩
 ·rename_i hc
  obtain ⟨h1, h2⟩ := h.st2 p0 p1 q0 q1 hx ha (Int.not_le.1 hc)
  exact ⟨h1, ⟨Nat.le_of_lt h2, fun _ => .inr h2⟩⟩
theorem vaJ_p (h : PtI n A v) {set : List Int} (hs : ∀ k : Nat, k < set.length → 0 ≤ nth set k ∧ nth set k < n) {p x : Int} (p0 : 0 ≤ p) (p1 : p < n) (hx : 0 ≤ x ∧ x ≤ 1000000000) : ∀ {j : Nat}, j ≤ set.length → x ≤ vaJ v set p x j ∧ vaJ v set p x j ≤ 1000000000 ∧ (0 < j → A p ≤ vaJ v set p x j)
 | 0, _ => ⟨Int.le_refl _, hx.2, fun h => by omega⟩
 | j + 1, hj => by
  obtain ⟨g1, g2, g3⟩ := vaJ_p h hs p0 p1 hx (j := j) (by omega)
  have hq := hs j (by omega)
  have hr := h.r p (nth set j) p0 p1 hq.1 hq.2
  simp only [vaJ]
  exact ⟨by omega, by omega, fun _ => by omega⟩
theorem vaI_p (h : PtI n A v) {set : List Int} (hs : ∀ k : Nat, k < set.length → 0 ≤ nth set k ∧ nth set k < n) : ∀ {i : Nat}, i ≤ set.length → 0 ≤ vaI v set i ∧ vaI v set i ≤ 1000000000 ∧ ∀ k : Nat, k < i → A (nth set k) ≤ vaI v set i
 | 0, _ => ⟨Int.le_refl _, by simp [vaI], fun k hk => by omega⟩
 | i + 1, hi => by
  obtain ⟨g1, g2, g3⟩ := vaI_p h hs (i := i) (by omega)
  have hp := hs i (by omega)
  obtain ⟨j1, j2, j3⟩ := vaJ_p h hs hp.1 hp.2 ⟨g1, g2⟩ (j := i + 1) hi
  simp only [vaI]
  refine ⟨by omega, j2, fun k hk => ?_⟩
  by_cases hki : k = i
  ·subst hki; exact j3 (by omega)
  ·exact Int.le_trans (g3 k (by omega)) j1
theorem va_p (h : PtI n A v) {set : List Int} (hs : ∀ k : Nat, k < set.length → 0 ≤ nth set k ∧ nth set k < n) : (0 ≤ vaF v set ∧ vaF v set ≤ 1000000000) ∧ ∀ r, r ∈ set → A r ≤ vaF v set := by
 obtain ⟨g1, g2, g3⟩ := vaI_p h hs (Nat.le_refl _)
 refine ⟨⟨g1, g2⟩, fun r hr => ?_⟩
 obtain ⟨k, hk, rfl⟩ := List.getElem_of_mem hr
 have := g3 k hk
 rw [nth_eq hk] at this; exact this
theorem plusI_ge {a b : Int} (ha : a ≤ 1000000000) (hb : 0 ≤ b) : a ≤ plusI a b := by unfold plusI; split <;> omega
end
section
variable {t : Tsk} {s : List Int} {A : Int → Int} {v : Mxx} {n : Nat}
theorem usA_p (hV : TskV t) (hA : Fea t s (cssF t) A) (hn : (n : Int) = t.facts) {i : Nat} (hi : i < t.ops.length) {c p : Int} {x : Mxx × Bool} (hx : PtI n A x.1) (hp : p ∈ (nth t.ops i).add) (hc : 0 ≤ c ∧ c ≤ 1000000000) (hc2 : ∀ q, q ∈ (nth t.ops i).add → A q ≤ c) : ∀ {j : Nat}, j ≤ (nth t.ops i).add.length →
  PtI n A (usA c (nth t.ops i).add p x j).1 ∧ Dc x (usA c (nth t.ops i).add p x j)
 | 0, _ => ⟨hx, .refl⟩
 | j + 1, hj => by
  obtain ⟨g1, g2⟩ := usA_p hV hA hn hi hx hp hc hc2 (j := j) (by omega)
  have hqm : nth (nth t.ops i).add j ∈ (nth t.ops i).add := nth_mem (l := (nth t.ops i).add) (n := (j : Int)) (by omega) (by omega)
  have hpr := setP_mem (hV.op i hi).1.2.1 hp
  have hqr := setP_mem (hV.op i hi).1.2.1 hqm
  obtain ⟨k1, k2⟩ := g1.stP (b := (usA c (nth t.ops i).add p x j).2) (q := nth (nth t.ops i).add j) hpr.1 (by omega) hqr.1 (by omega) hc ⟨hc2 p hp, hc2 _ hqm⟩
  exact ⟨k1, g2.trans k2⟩
theorem up1_set (hV : TskV t) (hn : (n : Int) = t.facts) {i q : Nat} (hi : i < t.ops.length) (hq : q < n) : ∀ k : Nat, k < (upS (nth t.ops i).pre [(q : Int)] []).length → 0 ≤ nth (upS (nth t.ops i).pre [(q : Int)] []) k ∧ nth (upS (nth t.ops i).pre [(q : Int)] []) k < n := fun k hk => by
 have hm : nth (upS (nth t.ops i).pre [(q : Int)] []) k ∈ upS (nth t.ops i).pre [(q : Int)] [] := nth_mem (by omega) (by omega)
 rcases up_mem.1 hm with h | h
 ·have := setP_mem (hV.op i hi).1.1 h.1; omega
 ·rw [List.mem_singleton] at h; rw [h]; omega
theorem usV_p (hV : TskV t) (hA : Fea t s (cssF t) A) (hn : (n : Int) = t.facts) {i q : Nat} (hi : i < t.ops.length) (hq : q < n) (hx : PtI n A v) : (0 ≤ vaF v (upS (nth t.ops i).pre [(q : Int)] []) ∧ vaF v (upS (nth t.ops i).pre [(q : Int)] []) ≤ 1000000000) ∧ (0 ≤ usV (nth t.ops i) v q ∧ usV (nth t.ops i) v q ≤ 1000000000) ∧ A q ≤ usV (nth t.ops i) v q ∧ ∀ p, p ∈ (nth t.ops i).add → A p ≤ usV (nth t.ops i) v q := by
 obtain ⟨h1, h2⟩ := va_p hx (up1_set hV hn hi hq)
 have hcs := (hV.op i hi).2
 refine ⟨h1, plusI_in h1 ⟨hcs.1, by omega⟩, Int.le_trans (h2 q (up_mem.2 (.inr (by simp)))) (plusI_ge h1.2 hcs.1), fun p hp => ?_⟩
 have := hA.2.2 i hi p hp _ h1.1 h1.2 fun r hr => h2 r (up_mem.2 (.inl ⟨hr, by simp⟩))
 rw [css_at hi] at this; exact this
theorem usB_p (hV : TskV t) (hA : Fea t s (cssF t) A) (hn : (n : Int) = t.facts) {i : Nat} (hi : i < t.ops.length) {p : Int} {x : Mxx × Bool} (hx : PtI n A x.1) (hp : p ∈ (nth t.ops i).add) : ∀ {q : Nat}, q ≤ n → PtI n A (usB (nth t.ops i) p x q).1 ∧ Dc x (usB (nth t.ops i) p x q)
 | 0, _ => ⟨hx, .refl⟩
 | q + 1, hq => by
  obtain ⟨g1, g2⟩ := usB_p hV hA hn hi hx hp (q := q) (by omega)
  simp only [usB]
  split
  ·exact ⟨g1, g2⟩
  ·have hpr := setP_mem (hV.op i hi).1.2.1 hp
   obtain ⟨_, u1, u2, u3⟩ := usV_p hV hA hn hi (q := q) (by omega) g1
   obtain ⟨k1, k2⟩ := g1.stP (b := (usB (nth t.ops i) p x q).2) (q := (q : Int)) hpr.1 (by omega) (by omega) (by omega) u1 ⟨u3 p hp, u2⟩
   exact ⟨k1, g2.trans k2⟩
theorem usC_p (hV : TskV t) (hA : Fea t s (cssF t) A) (hn : (n : Int) = t.facts) {i : Nat} (hi : i < t.ops.length) (hx : PtI n A v) : (0 ≤ vaF v (nth t.ops i).pre ∧ vaF v (nth t.ops i).pre ≤ 1000000000) ∧ (0 ≤ plusI (vaF v (nth t.ops i).pre) (nth t.ops i).cost ∧ plusI (vaF v (nth t.ops i).pre) (nth t.ops i).cost ≤ 1000000000) ∧ ∀ q, q ∈ (nth t.ops i).add → A q ≤ plusI (vaF v (nth t.ops i).pre) (nth t.ops i).cost := by
 obtain ⟨h1, h2⟩ := va_p hx (set := (nth t.ops i).pre) (fun k hk => by rw [hn]; exact set_rng (hV.op i hi).1.1 k hk)
 have hcs := (hV.op i hi).2
 refine ⟨h1, plusI_in h1 ⟨hcs.1, by omega⟩, fun p hp => ?_⟩
 have := hA.2.2 i hi p hp _ h1.1 h1.2 h2
 rw [css_at hi] at this; exact this
theorem usP_p (hV : TskV t) (hA : Fea t s (cssF t) A) (hn : (n : Int) = t.facts) {i : Nat} (hi : i < t.ops.length) {c : Int} {x : Mxx × Bool} (hx : PtI n A x.1) (hc : 0 ≤ c ∧ c ≤ 1000000000) (hc2 : ∀ q, q ∈ (nth t.ops i).add → A q ≤ c) : ∀ {k : Nat}, k ≤ (nth t.ops i).add.length →
  PtI n A (usP n c (nth t.ops i) x k).1 ∧ Dc x (usP n c (nth t.ops i) x k)
 | 0, _ => ⟨hx, .refl⟩
 | k + 1, hk => by
  obtain ⟨g1, g2⟩ := usP_p hV hA hn hi hx hc hc2 (k := k) (by omega)
  have hpm : nth (nth t.ops i).add k ∈ (nth t.ops i).add := nth_mem (l := (nth t.ops i).add) (n := (k : Int)) (by omega) (by omega)
  obtain ⟨a1, a2⟩ := usA_p hV hA hn hi g1 hpm hc hc2 (Nat.le_refl _)
  obtain ⟨b1, b2⟩ := usB_p hV hA hn hi a1 hpm (Nat.le_refl _)
  exact ⟨b1, g2.trans (a2.trans b2)⟩
theorem usF_p (hV : TskV t) (hA : Fea t s (cssF t) A) (hn : (n : Int) = t.facts) {i : Nat} (hi : i < t.ops.length) (hx : PtI n A v) : PtI n A (usF n (nth t.ops i) v).1 ∧ Dc (v, false) (usF n (nth t.ops i) v) := by
 obtain ⟨_, h1, h2⟩ := usC_p hV hA hn hi hx
 exact usP_p hV hA hn hi (x := (v, false)) hx h1 h2 (Nat.le_refl _)
theorem fdP_p (hV : TskV t) (hA : Fea t s (cssF t) A) (hx : PtI t.facts.toNat A v) : ∀ {i : Nat}, i ≤ t.ops.length → PtI t.facts.toNat A (fdP t v i).1 ∧ Dc (v, false) (fdP t v i)
 | 0, _ => ⟨hx, .refl⟩
 | i + 1, hi => by
  obtain ⟨g1, g2⟩ := fdP_p hV hA hx (i := i) (by omega)
  have hn : (t.facts.toNat : Int) = t.facts := Int.toNat_of_nonneg hV.facts.1
  obtain ⟨h1, h2⟩ := usF_p hV hA hn (i := i) (by omega) g1
  refine ⟨h1, g2.trans ⟨h2.le, fun e => ?_⟩⟩
  have e : ((usF t.facts.toNat (nth t.ops i) (fdP t v i).1).2 || (fdP t v i).2) = true := e
  rw [Bool.or_eq_true] at e
  rcases e with e | e
  ·exact (h2.lt e).elim (fun e => by cases e) .inr
  ·exact .inl e
theorem FdR.keep (hV : TskV t) (hA : Fea t s (cssF t) A) {w : Mxx} (h : FdR t v w) (hv : PtI t.facts.toNat A v) : PtI t.facts.toNat A w := by
 induction h with
 | done _ => exact (fdP_p hV hA hv (Nat.le_refl _)).1
 | step _ _ ih => exact ih (fdP_p hV hA hv (Nat.le_refl _)).1
theorem fd_ends (hV : TskV t) (hA : Fea t s (cssF t) A) : ∀ (d : Nat) {v : Mxx}, msum v < d → PtI t.facts.toNat A v → ∃ w, FdR t v w
 | 0, _, hd, _ => by omega
 | d + 1, v, hd, hv => by
  obtain ⟨h1, h2⟩ := fdP_p hV hA hv (Nat.le_refl _)
  cases hb : (fdP t v t.ops.length).2 with
  | false => exact ⟨_, .done hb⟩
  | true =>
   rcases h2.lt hb with h3 | h3
   ·cases h3
   ·obtain ⟨w, hw⟩ := fd_ends hV hA d (v := (fdP t v t.ops.length).1) (by simp only at h3; omega) h1
    exact ⟨w, .step hb hw⟩
theorem fd0_p (hV : TskV t) (hA : Fea t s (cssF t) A) : PtI t.facts.toNat A (fd0 t s) := by
 have hf := hV.facts
 refine ⟨fdI_len, fun i hi => ?_, fun p q p0 p1 q0 q1 => ?_⟩
 ·unfold fd0 fdI; rw [nth_rangeMap hi]; exact fdW_len
 ·obtain ⟨a, rfl⟩ := Int.eq_ofNat_of_zero_le p0
  obtain ⟨b, rfl⟩ := Int.eq_ofNat_of_zero_le q0
  unfold fd0
  rw [fdI_cel (by omega) (by omega), fdI_cel (by omega) (by omega)]
  unfold fdC
  by_cases h : (a : Int) ∈ s ∧ (b : Int) ∈ s
  ·rw [if_pos h, if_pos ⟨h.2, h.1⟩]; exact ⟨by omega, by omega, rfl, hA.1 _ h.1⟩
  ·rw [if_neg h, if_neg (fun e => h ⟨e.2, e.1⟩)]; exact ⟨by omega, by omega, rfl, hA.2.1 _ p0 (by omega)⟩
theorem fea_0 (hV : TskV t) : Fea t s (cssF t) fun _ => 0 := ⟨fun _ _ => Int.le_refl _, fun _ _ _ => (by show (0 : Int) ≤ 1000000000; decide), fun i hi p hp b b0 b1 _ => by
 have hcs := (hV.op i hi).2
 exact (plusI_in ⟨b0, b1⟩ (by rw [css_at hi]; exact ⟨hcs.1, by omega⟩)).1⟩
open Classical in
noncomputable def fdX (t : Tsk) (s : List Int) : Mxx := if h : ∃ w, FdR t (fd0 t s) w then h.choose else []
theorem fdX_ok (hV : TskV t) : FdR t (fd0 t s) (fdX t s) := by
 have h : ∃ w, FdR t (fd0 t s) w := fd_ends hV (fea_0 (s := s) hV) _ (Nat.lt_succ_self _) (fd0_p hV (fea_0 hV))
 unfold fdX
 rw [dif_pos h]
 exact h.choose_spec
theorem fdX_p (hV : TskV t) (hA : Fea t s (cssF t) A) : PtI t.facts.toNat A (fdX t s) := (fdX_ok hV).keep hV hA (fd0_p hV hA)
theorem fea_gm (hV : TskV t) (hs : ∀ p, p ∈ s → 0 ≤ p ∧ p < t.facts) : Fea t s (cssF t) fun p => nth (vlW t s (cssF t) gmF) p := by
 have h := hm_p hV (css_v hV) hs
 refine ⟨fun p hp => Int.le_of_eq (h.s p hp), fun p p0 p1 => (h.vp.r p p0 p1).2, fun i hi p hp b b0 b1 hq => ?_⟩
 have h1 := h.fix i hi p hp
 have h2 : gmF (vlW t s (cssF t) gmF) (nth t.ops i).pre ≤ b := gm_le b0 hq
 have hcs := (hV.op i hi).2
 rw [css_at hi] at h1 ⊢
 refine Int.le_trans h1 ?_
 unfold plusI
 split <;> split <;> omega
noncomputable def prG (t : Tsk) (s : List Int) : Int := if sttF t s = (0, 0) then vaF (fdX t s) t.goal else 0
theorem pr_spec (h0 : sttF t s = (0, 0)) : estG t s gmF ≤ prG t s ∧ 0 ≤ prG t s ∧ prG t s ≤ 1000000000 := by
 obtain ⟨hV, hS⟩ := sttF_ok h0
 have hs : ∀ p, p ∈ s → 0 ≤ p ∧ p < t.facts := fun p hp => setP_mem hS hp
 have hn : (t.facts.toNat : Int) = t.facts := Int.toNat_of_nonneg hV.facts.1
 obtain ⟨g1, g2⟩ := va_p (fdX_p hV (fea_gm hV hs)) (set := t.goal) (fun k hk => by rw [hn]; exact set_rng hV.goal k hk)
 rw [estG_0 h0]
 unfold prG
 rw [if_pos h0]
 exact ⟨gm_le g1.1 g2, g1.1, g1.2⟩
end
theorem PtOk.of {g : Pk} {n : Nat} {L : List Bk} {v w : Mxx} {A : Int → Int} (h : PtOk g n L v) (hL : L.length = n) (hw : PtI n A w) : PtOk g n L w := ⟨h.a, h.nd, h.r, h.ll, by rw [hw.l, hL], fun i hi => hw.w i (by rw [← hw.l]; exact hi), h.c, h.m, h.rc⟩
theorem sub1_iff {q : Int} {l : List Int} : SubP [q] l ↔ q ∈ l := ⟨fun h => h 0 (by simp), fun h k hk => by
 have : k = 0 := by simpa using hk
 subst this; exact h⟩
theorem sub1_of {q : Int} {l : List Int} (h : decide (SubP [q] l) = true) : q ∈ l := sub1_iff.1 (of_decide_eq_true h)
theorem sub1_no {q : Int} {l : List Int} (h : decide (SubP [q] l) = false) : q ∈ l → False := fun hq => of_decide_eq_false h (sub1_iff.2 hq)
theorem up1_len {t : Tsk} {n : Nat} (hV : TskV t) (hn : (n : Int) = t.facts) {i q : Nat} (hi : i < t.ops.length) (hq : q < n) : (upS (nth t.ops i).pre [(q : Int)] []).length ≤ 1000 := by
 have hf := hV.facts
 have := pw_lt_len (n := t.facts) (x := 0) (up_lt (s := (nth t.ops i).pre) (a := [(q : Int)]) (d := [])) (fun y hy => by
  rcases up_mem.1 hy with h | h
  ·exact setP_mem (hV.op i hi).1.1 h.1
  ·rw [List.mem_singleton] at h; omega)
 omega
theorem fdIW_w {s : List Int} {n a j i : Nat} (hi : i < a + 1) : (nth (fdI s n a ++ [fdW s n a j]) i).length = n := by
 rw [nth_eq (by simp [fdI_len]; omega)]
 by_cases h : i < a
 ·rw [List.getElem_append_left (by rw [fdI_len]; exact h)]; simp [fdI, fdW_len]
 ·rw [List.getElem_append_right (by rw [fdI_len]; omega)]; simp [fdW_len]
theorem pt_put {g : Pk} {n T b : Nat} {L : List Bk} {v : Mxx} {l : List Value} (h : PtOk g n L v) (hL : L.length < n) (hb : pqF g n L v b = none) : updF (pqF g n L v) b T l g.r = some (g.TR, hdL n L ++ g.rt) := by
 have ha := h.an (by omega)
 have hbr : g.r ≠ b := fun e => by rw [← e, pt_r ha] at hb; cases hb
 unfold updF
 rw [if_neg hbr, pt_r ha]
theorem fd_mu {v : Mxx} {b : Bool} {y : Mxx × Bool} (h : Dc (v, false) y) (hb : b = true) : 2 * msum y.1 + (if y.2 = true then 1 else 0) < 2 * msum v + (if b = true then 1 else 0) := by
 subst hb
 have h1 := h.le
 simp only at h1
 cases hy : y.2 with
 | false => simp; omega
 | true =>
  rcases h.lt hy with h2 | h2
  ·cases h2
  ·simp only at h2; simp; omega
end Go.Eng
end

section
namespace Go.Proofs.YthjmgcopfipabaaGreat
open Go.Eng
set_option maxRecDepth 10000
set_option maxHeartbeats 1000000
theorem pairs_table_value_T (g : Pk) (n : Nat) (L : List Bk) (v : Mxx) (hk : PtOk g n L v) (hL : L.length = n) (set : List Int) (hs : ∀ k : Nat, k < set.length → 0 ≤ nth set k ∧ nth set k < n) (hl : set.length ≤ 1000) : DoesT Tryz.prog 39 [.d (.v (ptH g n)), .d (ints set)] (.int .i64 (vaF v set)) (pqF g n L v) (pqF g n L v) := by
 refine DoesT.of_body Tryz.func39 rfl rfl (by simp) Tryz.call39 (fun b => pt_dom b) (fun O0 Oc W => ?_); refine .g <| .r <| .a ?_; refine .z <| .a ?_; refine .sq <| .g <| .g <| .r <| .m ?_; refine .x (.n es22) ?_; refine .m ?_; refine .sq <| .k <| .loop (X := Nat) (fun i => i ≤ set.length) (fun i => [(0, .d (.v (ptH g n))), (1, .d (ints set)), (5, I (vaI v set i)), (10, .d (ints set)), (11, I (set.length)), (12, I (i))]) (fun i => [(0, .any (pinK (pqF g n L v))), (1000, .fr (frK Oc W))]) (fun i => set.length - i) 0 (by omega) ?_ ?_
 ·exact .p2 <| .slot rfl (Le.of_eq rfl) <| .p2 <| .slot rfl (Le.of_eq (by simp)) <| .all
 ·rintro i hil
  refine .g <| .r <| .x (.b blss) ?_; refine .sq <| .g <| .cond rfl (fun c13 => ?_) (fun c13 => ?_)
  ·have hi : i < set.length := by simpa using c13
   have hp := hs i hi
   refine .p <| .g <| .g <| .k <| .g <| .r <| .m ?_; refine .x (.i es22) ?_; refine .x (.l1 vs3) ?_; refine .a ?_; refine .a ?_; refine .z <| .mm ?_; refine .x .ad ?_; refine .x (OpSem.sliceH rfl rfl rfl es22 (by omega) (by omega)) ?_; refine .x (.n es22) ?_; refine .m ?_; refine .sq <| .k <| .loop (X := Nat) (fun j => j ≤ (i + 1)) (fun j => [(0, .d (.v (ptH g n))), (1, .d (ints set)), (5, I (vaJ v set (nth set i) (vaI v set i) j)), (7, I ((nth set i))), (10, .d (ints set)), (11, I (set.length)), (12, I (i)), (20, .d (ints (set.take (((i : Int) + 1)).toNat))), (21, I ((set.take (((i : Int) + 1)).toNat).length)), (22, I (j))]) (fun j => [(0, .any (pinK (pqF g n L v))), (1000, .fr (frK Oc W))]) (fun j => (i + 1) - j) 0 (by omega) ?_ ?_
   ·exact .p2 <| .slot rfl (Le.of_eq rfl) <| .p5 <| .sl <| .slot rfl (Le.of_eq (by simp)) <| .all
   ·rintro j hjl
    refine .g <| .r <| .x (.b blss) ?_; refine .sq <| .g <| .cond rfl (fun c23 => ?_) (fun c23 => ?_)
    ·have hj : j < i + 1 := by have := c23; simp at this; omega
     have hq := hs j (by omega)
     have hnt : nth (set.take ((i : Int) + 1).toNat) j = nth set j := by rw [nth_eq (by simp; omega), nth_eq (by omega), List.getElem_take]
     refine .p <| .g <| .g <| .k <| .g <| .r <| .x (OpSem.idxL rfl rfl rfl es22 (by omega) (by simp; omega)) ?_; refine .x (OpSem.le (s' := I (nth set j)) (.l1 vs3) (Le.i hnt)) ?_; refine .a ?_; refine .y <| .mm ?_; refine .m ?_; refine .x (OpSem.ptI hk rfl rfl rfl es77 (by omega) (by omega)) ?_; refine .x (OpSem.ptR (h := 0) hk rfl rfl rfl vs22 (by omega) (by omega)) ?_; refine .m ?_; refine .x (.ixv es22) ?_; refine .x (OpSem.ptC (h := 0) hk rfl rfl rfl vs3 (by omega) (by omega) (by omega) (by omega)) ?_; refine .x (OpSem.max2 rfl rfl rfl) ?_; refine .a ?_; refine .n <| .n <| .y <| .x .ad ?_; refine .m ?_; refine .n <| .again (j + 1) (by omega) ?_ (by omega); exact .p2 <| .slot rfl (Le.of_eq rfl) <| .p5 <| .sl <| .slot rfl (Le.of_eq (by simp)) <| .all
    ·have hj : j = i + 1 := by have := c23; simp at this; omega
     subst hj
     refine .u <| .u <| .u <| .b <| .n <| .y <| .x .ad ?_; refine .m ?_; refine .n <| .again (i + 1) (by omega) ?_ (by omega); exact .p2 <| .slot rfl (Le.of_eq rfl) <| .p2 <| .slot rfl (Le.of_eq (by simp)) <| .all
  ·have hi : i = set.length := by simp at c13; omega
   subst hi
   refine .u <| .u <| .u <| .b <| .z <| .m ?_; refine .a ?_; exact .sq <| .t <| .retP (.inl rfl) rfl (.tmp rfl <| .nil) rfl rfl (rfl) (fun H => rfl)
theorem pairs_table_value_does (n : Nat) (v : Mxx) (hv : v.length = n) (hw : ∀ i : Nat, i < n → (nth v i).length = n) (set : List Int) (hs : ∀ k : Nat, k < set.length → 0 ≤ nth set k ∧ nth set k < n) (hl : set.length ≤ 1000) : Does Tryz.prog false 39 [.d (rows v), .d (ints set)] (I (vaF v set)) := by
 refine Does.of_body Tryz.func39 rfl rfl (by simp) Tryz.call39 (fun w0 O0 => ?_); refine .le 0 fun len0 => ?_; refine .le 1 fun len1 => ?_; refine .g <| .r <| .a ?_; refine .z <| .a ?_; refine .sq <| .g <| .g <| .r <| .m ?_; refine .x (.n es22) ?_; refine .m ?_; refine .sq <| .k <| .loop (X := Nat) (fun i => i ≤ set.length) (fun i => [(0, .d (rows v)), (1, .d (ints set)), (5, I (vaI v set i)), (10, .d (ints set)), (11, I (set.length)), (12, I (i))]) (fun i => []) (fun i => set.length - i) 0 (by omega) ?_ ?_
 ·exact .p2 <| .slot rfl (Le.of_eq rfl) <| .p2 <| .slot rfl (Le.of_eq (by simp)) <| .nil
 ·rintro i hil
  refine .g <| .r <| .x (.b blss) ?_; refine .sq <| .g <| .cond rfl (fun c13 => ?_) (fun c13 => ?_)
  ·have hi : i < set.length := by simpa using c13
   have hp := hs i hi
   refine .p <| .g <| .g <| .k <| .g <| .r <| .m ?_; refine .x (.i es22) ?_; refine .x (.l1 vs3) ?_; refine .a ?_; refine .a ?_; refine .z <| .mm ?_; refine .x .ad ?_; refine .x (OpSem.sliceH rfl rfl rfl es22 (by omega) (by omega)) ?_; refine .x (.n es22) ?_; refine .m ?_; refine .sq <| .k <| .loop (X := Nat) (fun j => j ≤ (i + 1)) (fun j => [(0, .d (rows v)), (1, .d (ints set)), (5, I (vaJ v set (nth set i) (vaI v set i) j)), (7, I ((nth set i))), (10, .d (ints set)), (11, I (set.length)), (12, I (i)), (20, .d (ints (set.take (((i : Int) + 1)).toNat))), (21, I ((set.take (((i : Int) + 1)).toNat).length)), (22, I (j))]) (fun j => []) (fun j => (i + 1) - j) 0 (by omega) ?_ ?_
   ·exact .p2 <| .slot rfl (Le.of_eq rfl) <| .p5 <| .sl <| .slot rfl (Le.of_eq (by simp)) <| .nil
   ·rintro j hjl
    refine .g <| .r <| .x (.b blss) ?_; refine .sq <| .g <| .cond rfl (fun c23 => ?_) (fun c23 => ?_)
    ·have hj : j < i + 1 := by have := c23; simp at this; omega
     have hq := hs j (by omega)
     have hnt : nth (set.take ((i : Int) + 1).toNat) j = nth set j := by rw [nth_eq (by simp; omega), nth_eq (by omega), List.getElem_take]
     have hwp : (nth v (nth set i)).length = n := by obtain ⟨a, ha⟩ := Int.eq_ofNat_of_zero_le hp.1; rw [ha]; exact hw a (by omega)
     refine .p <| .g <| .g <| .k <| .g <| .r <| .x (OpSem.idxL rfl rfl rfl es22 (by omega) (by simp; omega)) ?_; refine .x (OpSem.le (s' := I (nth set j)) (.l1 vs3) (Le.i hnt)) ?_; refine .a ?_; refine .y <| .mm ?_; refine .m ?_; refine .x (.i es77) ?_; refine .x (.l1 vs22) ?_; refine .m ?_; refine .x (.i es22) ?_; refine .x (.l1 vs3) ?_; refine .x (OpSem.max2 rfl rfl rfl) ?_; refine .a ?_; refine .n <| .n <| .y <| .x .ad ?_; refine .m ?_; refine .n <| .again (j + 1) (by omega) ?_ (by omega); exact .p2 <| .slot rfl (Le.of_eq rfl) <| .p5 <| .sl <| .slot rfl (Le.of_eq (by simp)) <| .nil
    ·have hj : j = i + 1 := by have := c23; simp at this; omega
     subst hj
     refine .u <| .u <| .u <| .b <| .n <| .y <| .x .ad ?_; refine .m ?_; refine .n <| .again (i + 1) (by omega) ?_ (by omega); exact .p2 <| .slot rfl (Le.of_eq rfl) <| .p2 <| .slot rfl (Le.of_eq (by simp)) <| .nil
  ·have hi : i = set.length := by simp at c13; omega
   subst hi
   refine .u <| .u <| .u <| .b <| .z <| .m ?_; refine .a ?_; exact .sq <| .t <| .ret rfl (.tmp rfl <| .nil) rfl (Le.of_eq rfl)
theorem pairs_table_set_T (g : Pk) (n : Nat) (L : List Bk) (v : Mxx) (hk : PtOk g n L v) (hL : L.length = n) (p q x : Int) (p0 : 0 ≤ p) (p1 : p < n) (q0 : 0 ≤ q) (q1 : q < n) : DoesT Tryz.prog 103 [.d (.v (ptH g n)), I (p), I (q), I (x)] (.bool (stP v p q x).2) (pqF g n L v) (pqF g n L ((stP v p q x).1)) := by
 refine DoesT.of_body Tryz.func103 rfl rfl (by simp) Tryz.call103 (fun b => pt_dom b) (fun O0 Oc W => ?_); refine .g <| .r <| .a ?_; refine .sq <| .g <| .g <| .r <| .mm ?_; refine .m ?_; refine .x (OpSem.ptI hk rfl rfl rfl es77 (by omega) (by omega)) ?_; refine .x (OpSem.ptR (h := 0) hk rfl rfl rfl vs22 (by omega) (by omega)) ?_; refine .m ?_; refine .x (.ixv es22) ?_; refine .x (OpSem.ptC (h := 0) hk rfl rfl rfl vs3 (by omega) (by omega) (by omega) (by omega)) ?_; refine .x (.b bgeq) ?_; refine .sq <| .cond rfl (fun c17 => ?_) (fun c17 => ?_)
 ·have hst : stP v p q x = (v, false) := by unfold stP; rw [if_pos (show celx v p q ≤ x from of_decide_eq_true c17)]
  refine .g <| .r <| .a ?_; exact .sq <| .t <| .t <| .retP (.inl rfl) rfl (.tmp rfl <| .nil) rfl rfl (by rw [hst]) (fun H => by rw [hst]; rfl)
 ·have hst : stP v p q x = (st2 v p q x, true) := by unfold stP; rw [if_neg (show ¬ celx v p q ≤ x from of_decide_eq_false c17)]
  have hkp : ∀ {j : Nat}, PtOk g n L (v.set p.toNat ((nth v p).set j x)) := fun {j} => by obtain ⟨a, ha⟩ := Int.eq_ofNat_of_zero_le p0; rw [ha]; exact hk.set (by omega)
  refine .p <| .g <| .g <| PC.start [] ?_; refine .mm ?_; refine .x (OpSem.ptI hk rfl rfl rfl es77 (by omega) (by omega)) ?_; refine .x (OpSem.ptR (h := 0) hk rfl rfl rfl vs22 (by omega) (by omega)) ?_; refine .mm ?_; refine .m ?_; refine .x (OpSem.ptI hk rfl rfl rfl es77 (by omega) (by omega)) ?_; refine .x (OpSem.ptR (h := 0) hk rfl rfl rfl vs22 (by omega) (by omega)) ?_; refine .mm ?_; refine .m ?_; refine .x (.ixv es22) ?_; refine .doneS [9, 11] [[], [11], [9], [9, 11]] mixed (by kernel_rfl) (by kernel_rfl) (by kernel_rfl) (by kernel_rfl) (by kernel_rfl) (by decide) rfl (by kernel_rfl) ⟨?_, ?_, ?_, ?_, trivial⟩
  ·refine ⟨[], _, by kernel_rfl, by repeat' (first | exact .nil | (apply DropRs.hit; rfl) | (apply DropRs.miss; rfl)), ?_⟩; refine .ofSt0' (OpSt.ptC (h := 0) hk rfl rfl rfl vs3 (by omega) (by omega) (by omega) (by omega)) rfl rfl rfl ?_; refine TrSet.start ?_; refine .zero ?_; refine .x (.ixv es22) ?_; refine .ofSt0' (OpSt.ptC (h := 0) (hkp (j := q.toNat)) rfl rfl rfl vs3 (by omega) (by omega) (by omega) (by omega)) rfl rfl rfl ?_; refine .z <| .a ?_; exact .sq <| .t <| .retP (.inl rfl) rfl (.tmp rfl <| .nil) rfl rfl (by rw [hst]; rfl) (fun H => by rw [hst]; rfl)
  ·refine ⟨[29], _, by kernel_rfl, by repeat' (first | exact .nil | (apply DropRs.hit; rfl) | (apply DropRs.miss; rfl)), ?_⟩; refine .ofSt0' (OpSt.ptC (h := 0) hk rfl rfl rfl vs3 (by omega) (by omega) (by omega) (by omega)) rfl rfl rfl ?_; refine TrSet.start ?_; refine .succ ⟨?_, trivial⟩
   ·refine .inr (TrI.sem rfl (OpSem.move (.inl rfl) rfl) rfl rfl (by decide) rfl ?_); refine .zero ?_; refine .x (.ixv es22) ?_; refine .ofSt0' (OpSt.ptC (h := 0) (hkp (j := q.toNat)) rfl rfl rfl vs3 (by omega) (by omega) (by omega) (by omega)) rfl rfl rfl ?_; refine .z <| .a ?_; exact .sq <| .t <| .retP (.inl rfl) rfl (.tmp rfl <| .nil) rfl rfl (by rw [hst]; rfl) (fun H => by rw [hst]; rfl)
  ·refine ⟨[27], _, by kernel_rfl, by repeat' (first | exact .nil | (apply DropRs.hit; rfl) | (apply DropRs.miss; rfl)), ?_⟩; refine .ofSt0' (OpSt.ptC (h := 0) hk rfl rfl rfl vs3 (by omega) (by omega) (by omega) (by omega)) rfl rfl rfl ?_; refine TrSet.start ?_; refine .succ ⟨?_, trivial⟩
   ·refine .inr (TrI.sem rfl (OpSem.move (.inl rfl) rfl) rfl rfl (by decide) rfl ?_); refine .zero ?_; refine .x (.ixv es22) ?_; refine .ofSt0' (OpSt.ptC (h := 0) (hkp (j := q.toNat)) rfl rfl rfl vs3 (by omega) (by omega) (by omega) (by omega)) rfl rfl rfl ?_; refine .z <| .a ?_; exact .sq <| .t <| .retP (.inl rfl) rfl (.tmp rfl <| .nil) rfl rfl (by rw [hst]; rfl) (fun H => by rw [hst]; rfl)
  ·refine ⟨[27, 29], _, by kernel_rfl, by repeat' (first | exact .nil | (apply DropRs.hit; rfl) | (apply DropRs.miss; rfl)), ?_⟩; refine .ofSt0' (OpSt.ptC (h := 0) hk rfl rfl rfl vs3 (by omega) (by omega) (by omega) (by omega)) rfl rfl rfl ?_; refine TrSet.start ?_; refine .succ ⟨?_, ?_, trivial⟩
   ·refine .inr (TrI.sem rfl (OpSem.move (.inl rfl) rfl) rfl rfl (by decide) rfl ?_); refine .succ ⟨?_, trivial⟩
    ·refine .inr (TrI.sem rfl (OpSem.move (.inl rfl) rfl) rfl rfl (by decide) rfl ?_); refine .zero ?_; refine .x (.ixv es22) ?_; refine .ofSt0' (OpSt.ptC (h := 0) (hkp (j := q.toNat)) rfl rfl rfl vs3 (by omega) (by omega) (by omega) (by omega)) rfl rfl rfl ?_; refine .z <| .a ?_; exact .sq <| .t <| .retP (.inl rfl) rfl (.tmp rfl <| .nil) rfl rfl (by rw [hst]; rfl) (fun H => by rw [hst]; rfl)
   ·refine .inr (TrI.sem rfl (OpSem.move (.inl rfl) rfl) rfl rfl (by decide) rfl ?_); refine .succ ⟨?_, trivial⟩
    ·refine .inr (TrI.sem rfl (OpSem.move (.inl rfl) rfl) rfl rfl (by decide) rfl ?_); refine .zero ?_; refine .x (.ixv es22) ?_; refine .ofSt0' (OpSt.ptC (h := 0) (hkp (j := q.toNat)) rfl rfl rfl vs3 (by omega) (by omega) (by omega) (by omega)) rfl rfl rfl ?_; refine .z <| .a ?_; exact .sq <| .t <| .retP (.inl rfl) rfl (.tmp rfl <| .nil) rfl rfl (by rw [hst]; rfl) (fun H => by rw [hst]; rfl)
theorem strips_Union_does (a b : List Int) (h1 : a.length ≤ 1000) (h2 : b.length ≤ 1000) : DoesO Tryz.prog 104 [.d (ints a), .d (ints b)] 1 3 (((upS a b []).map fun n => [D.v (.int .i64 n)])) := by
 refine DoesO.of_body Tryz.func104 rfl rfl (by simp) Tryz.call104 (fun w0 O0 => ?_); refine .le 0 fun len0 => ?_; refine .le 1 fun len1 => ?_; refine .g <| .r <| .a ?_; refine .z <| .mm ?_; refine .semM (OpSem.callO 7 (strips_Update_does a b [] (by simp) h1 h2 (by simp)) rfl rfl rfl rfl (.cons (.refl _) <| .cons (.refl _) <| .cons (.nil _) <| .nil)) rfl rfl (by decide) ?_; refine .a ?_; exact .sq <| .t <| .retO2 rfl rfl rfl (by simp) (rfl)
theorem pairs_table_use_T (g : Pk) (n : Nat) (L : List Bk) (v : Mxx) (hk : PtOk g n L v) (hL : L.length = n) (t : Tsk) (hV : TskV t) (i : Nat) (hi : i < t.ops.length) (hn : (n : Int) = t.facts) (hP : PtI n (fun _ => 0) v) : DoesT Tryz.prog 63 [.d (.v (ptH g n)), sopS (nth t.ops i)] (.bool (usF n (nth t.ops i) v).2) (pqF g n L v) (pqF g n L ((usF n (nth t.ops i) v).1)) := by
 have hf0 := hV.facts
 have hcs := (hV.op i hi).2
 have hf := fea_0 (s := []) hV
 obtain ⟨hC1, hC2, hC3⟩ := usC_p hV hf hn hi hP
 have hpre := set_rng (hV.op i hi).1.1
 have hprl := setP_len2 (hV.op i hi).1.1 hf0.2
 have hadd := set_rng (hV.op i hi).1.2.1
 have hadl := setP_len2 (hV.op i hi).1.2.1 hf0.2
 have hdel := set_rng (hV.op i hi).1.2.2.1
 have hdll := setP_len2 (hV.op i hi).1.2.2.1 hf0.2
 refine DoesT.of_body Tryz.func63 rfl rfl (by simp) Tryz.call63 (fun b => pt_dom b) (fun O0 Oc W => ?_); refine .g <| .r <| .bx 3 ?_; refine .a ?_; refine .z <| .a ?_; refine .sq <| .g <| PC.start [] ?_; refine .m ?_; refine .x (.f fo41_0) ?_; refine .x (.l vs22) ?_; refine .x (OpSem.callT (h := 0) (pairs_table_value_T g n L v hk hL (nth t.ops i).pre (fun k h => by rw [hn]; exact hpre k h) (by omega)) rfl rfl rfl rfl rfl) ?_; refine .x (.f fo41_3) ?_; refine .x (.l vs3) ?_; refine .d0 mixed ?_; refine .x (OpSem.call0 (relaxed_Plus_does (vaF v (nth t.ops i).pre) (nth t.ops i).cost hC1 ⟨hcs.1, by omega⟩) rfl rfl rfl rfl (Les.refl _)) ?_; refine .a ?_; refine .sq <| .g <| .g <| .r <| .x (.f fo41_1) ?_; refine .x (.l vs22) ?_; refine .x (.n es22) ?_; refine .m ?_; refine .sq <| .k <| .loop (X := Nat) (fun k => k ≤ (nth t.ops i).add.length) (fun k => [(0, .d (.v (ptH g n))), (3, .r 3 0), (5, Bo ((usP n (plusI (vaF v (nth t.ops i).pre) (nth t.ops i).cost) (nth t.ops i) (v, false) k).2)), (6, I ((plusI (vaF v (nth t.ops i).pre) (nth t.ops i).cost))), (21, .d (ints ((nth t.ops i).add))), (22, I (((nth t.ops i).add).length)), (23, I (k))]) (fun k => [(0, .any (pinK (pqF g n L ((usP n (plusI (vaF v (nth t.ops i).pre) (nth t.ops i).cost) (nth t.ops i) (v, false) k).1)))), (1000, .fr (frK Oc W)), (3, .box [.d (ints ((nth t.ops i).pre)), .d (ints ((nth t.ops i).add)), .d (ints ((nth t.ops i).del)), I ((nth t.ops i).cost)])]) (fun k => (nth t.ops i).add.length - k) 0 (by omega) ?_ ?_
 ·exact .p2 <| .slot rfl (Le.bo rfl) <| .p3 <| .slot rfl (Le.of_eq (by simp)) <| .all
 ·rintro k hkl0
  refine .g <| .r <| .x (.b blss) ?_; refine .sq <| .g <| .cond rfl (fun c24 => ?_) (fun c24 => ?_)
  ·have hkl : k < (nth t.ops i).add.length := by simpa using c24
   have hpk := hadd k hkl
   have hpm : (nth (nth t.ops i).add k) ∈ (nth t.ops i).add := nth_mem (l := (nth t.ops i).add) (n := (k : Int)) (by omega) (by omega)
   have hU := (usP_p hV hf hn hi (x := (v, false)) hP hC2 hC3 hkl0).1
   refine .p <| .g <| .g <| .k <| .g <| .r <| .x (.i es22) ?_; refine .x (.l1 vs3) ?_; refine .a ?_; refine .sq <| .g <| .g <| .r <| .x (.f fo41_1) ?_; refine .x (.l vs22) ?_; refine .x (.n es22) ?_; refine .m ?_; refine .sq <| .k <| .loop (X := Nat) (fun j => j ≤ (nth t.ops i).add.length) (fun j => [(0, .d (.v (ptH g n))), (3, .r 3 0), (5, Bo ((usA (plusI (vaF v (nth t.ops i).pre) (nth t.ops i).cost) (nth t.ops i).add (nth (nth t.ops i).add k) (usP n (plusI (vaF v (nth t.ops i).pre) (nth t.ops i).cost) (nth t.ops i) (v, false) k) j).2)), (6, I ((plusI (vaF v (nth t.ops i).pre) (nth t.ops i).cost))), (8, I ((nth ((nth t.ops i).add) k))), (21, .d (ints ((nth t.ops i).add))), (22, I (((nth t.ops i).add).length)), (23, I (k)), (28, .d (ints ((nth t.ops i).add))), (29, I (((nth t.ops i).add).length)), (30, I (j))]) (fun j => [(0, .any (pinK (pqF g n L ((usA (plusI (vaF v (nth t.ops i).pre) (nth t.ops i).cost) (nth t.ops i).add (nth (nth t.ops i).add k) (usP n (plusI (vaF v (nth t.ops i).pre) (nth t.ops i).cost) (nth t.ops i) (v, false) k) j).1)))), (1000, .fr (frK Oc W)), (3, .box [.d (ints ((nth t.ops i).pre)), .d (ints ((nth t.ops i).add)), .d (ints ((nth t.ops i).del)), I ((nth t.ops i).cost)])]) (fun j => (nth t.ops i).add.length - j) 0 (by omega) ?_ ?_
   ·exact .p2 <| .slot rfl (Le.bo rfl) <| .p5 <| .p2 <| .slot rfl (Le.of_eq (by simp)) <| .all
   ·rintro j hjl0
    refine .g <| .r <| .x (.b blss) ?_; refine .sq <| .g <| .cond rfl (fun c31 => ?_) (fun c31 => ?_)
    ·have hjl : j < (nth t.ops i).add.length := by simpa using c31
     have hpj := hadd j hjl
     have hA1 := (usA_p hV hf hn hi (p := (nth (nth t.ops i).add k)) hU hpm hC2 hC3 hjl0).1
     refine .p <| .g <| .g <| .k <| .g <| .r <| .x (.i es22) ?_; refine .x (.l1 vs3) ?_; refine .a ?_; refine .y <| .mm ?_; refine .mm ?_; refine .ofSt (OpSt.callT (h := 0) (pairs_table_set_T g n L (usA (plusI (vaF v (nth t.ops i).pre) (nth t.ops i).cost) (nth t.ops i).add (nth (nth t.ops i).add k) (usP n (plusI (vaF v (nth t.ops i).pre) (nth t.ops i).cost) (nth t.ops i) (v, false) k) j).1 (hk.of hL hA1) hL (nth (nth t.ops i).add k) (nth (nth t.ops i).add j) (plusI (vaF v (nth t.ops i).pre) (nth t.ops i).cost) (by omega) (by omega) (by omega) (by omega)) rfl rfl rfl rfl) rfl rfl rfl (by decide) ?_; refine .m ?_; refine .split (n := 39) rfl (fun c39 => ?_) (fun c39 => ?_)
     ·refine .hf c39 ?_; refine .x (OpSem.pickT rfl rfl c39 rfl) ?_; refine .a ?_; refine .n <| .n <| .y <| .x .ad ?_; refine .m ?_; refine .n <| .again (j + 1) (by omega) ?_ (by omega); exact .p2 <| .slot rfl (Le.bo (by simp only [usA, orB]; simp [c39])) <| .p5 <| .p2 <| .slot rfl (Le.of_eq (by simp)) <| .all
     ·refine .ht c39 ?_; refine .m ?_; refine .x (OpSem.pickF rfl rfl c39 rfl) ?_; refine .a ?_; refine .n <| .n <| .y <| .x .ad ?_; refine .m ?_; refine .n <| .again (j + 1) (by omega) ?_ (by omega); exact .p2 <| .slot rfl (Le.bo (by simp only [usA, orB]; simp [c39])) <| .p5 <| .p2 <| .slot rfl (Le.of_eq (by simp)) <| .all
    ·have hjl : j = (nth t.ops i).add.length := by simp at c31; omega
     subst hjl
     have hAE := (usA_p hV hf hn hi (p := (nth (nth t.ops i).add k)) hU hpm hC2 hC3 (Nat.le_refl _)).1
     refine .u <| .u <| .u <| .b <| .z <| .m ?_; refine .x (OpSem.lenv rfl rfl es77) ?_; refine .m ?_; refine .sq <| .k <| .loop (X := Nat) (fun q => q ≤ n) (fun q => [(0, .d (.v (ptH g n))), (3, .r 3 0), (5, Bo ((usB (nth t.ops i) (nth (nth t.ops i).add k) (usA (plusI (vaF v (nth t.ops i).pre) (nth t.ops i).cost) (nth t.ops i).add (nth (nth t.ops i).add k) (usP n (plusI (vaF v (nth t.ops i).pre) (nth t.ops i).cost) (nth t.ops i) (v, false) k) (nth t.ops i).add.length) q).2)), (6, I ((plusI (vaF v (nth t.ops i).pre) (nth t.ops i).cost))), (8, I ((nth ((nth t.ops i).add) k))), (21, .d (ints ((nth t.ops i).add))), (22, I (((nth t.ops i).add).length)), (23, I (k)), (44, I ((n : Int))), (45, I (q))]) (fun q => [(0, .any (pinK (pqF g n L ((usB (nth t.ops i) (nth (nth t.ops i).add k) (usA (plusI (vaF v (nth t.ops i).pre) (nth t.ops i).cost) (nth t.ops i).add (nth (nth t.ops i).add k) (usP n (plusI (vaF v (nth t.ops i).pre) (nth t.ops i).cost) (nth t.ops i) (v, false) k) (nth t.ops i).add.length) q).1)))), (1000, .fr (frK Oc W)), (3, .box [.d (ints ((nth t.ops i).pre)), .d (ints ((nth t.ops i).add)), .d (ints ((nth t.ops i).del)), I ((nth t.ops i).cost)])]) (fun q => n - q) 0 (by omega) ?_ ?_
     ·exact .p2 <| .slot rfl (Le.bo rfl) <| .p5 <| .slot rfl (Le.of_eq rfl) <| .slot rfl (Le.of_eq (by simp)) <| .all
     ·rintro q hql
      refine .g <| .r <| .x (.b blss) ?_; refine .sq <| .g <| .cond rfl (fun c46 => ?_) (fun c46 => ?_)
      ·have hq : q < n := by simpa using c46
       have hB1 := (usB_p hV hf hn hi (p := (nth (nth t.ops i).add k)) hAE hpm hql).1
       obtain ⟨hU1, hU2, _⟩ := usV_p hV hf hn hi hq hB1
       refine .p <| .g <| .g <| .k <| .g <| .r <| .m ?_; refine .a ?_; refine .sq <| .g <| .g <| .r <| .x (.f fo41_1) ?_; refine .x (.l vs22) ?_; refine .m ?_; refine .x (.bs es22 ze22) ?_; refine .x (OpSem.call0 (strips_Contains_does (nth t.ops i).add [(q : Int)] (setP_sorted (hV.op i hi).1.2.1) (by simp) (by omega) (by simp)) rfl rfl rfl rfl (Les.refl _)) ?_; refine .m ?_; refine .split (n := 53) rfl (fun c53 => ?_) (fun c53 => ?_)
       ·have hst : usB (nth t.ops i) (nth (nth t.ops i).add k) (usA (plusI (vaF v (nth t.ops i).pre) (nth t.ops i).cost) (nth t.ops i).add (nth (nth t.ops i).add k) (usP n (plusI (vaF v (nth t.ops i).pre) (nth t.ops i).cost) (nth t.ops i) (v, false) k) (nth t.ops i).add.length) (q + 1) = (usB (nth t.ops i) (nth (nth t.ops i).add k) (usA (plusI (vaF v (nth t.ops i).pre) (nth t.ops i).cost) (nth t.ops i).add (nth (nth t.ops i).add k) (usP n (plusI (vaF v (nth t.ops i).pre) (nth t.ops i).cost) (nth t.ops i) (v, false) k) (nth t.ops i).add.length) q) := by simp only [usB]; rw [if_pos (.inl (sub1_of c53))]
        refine .hf c53 ?_; refine .hf c53 ?_; refine .hf c53 ?_; refine .hf c53 ?_; refine .hf c53 ?_; refine .x (OpSem.pickT rfl rfl c53 rfl) ?_; refine .sq <| .condT rfl rfl ?_; refine .u <| .u <| .b <| .y <| .x .ad ?_; refine .m ?_; refine .n <| .again (q + 1) (by omega) ?_ (by omega); exact .p2 <| .slot rfl (Le.bo (by rw [hst])) <| .p5 <| .sl <| .slot rfl (Le.of_eq (by simp)) <| .memEq rfl (by rw [hst]) <| .all
       ·refine .ht c53 ?_; refine .x (.f fo41_2) ?_; refine .ht c53 ?_; refine .x (.l vs22) ?_; refine .ht c53 ?_; refine .m ?_; refine .ht c53 ?_; refine .x (.bs es22 ze22) ?_; refine .ht c53 ?_; refine .x (OpSem.call0 (strips_Contains_does (nth t.ops i).del [(q : Int)] (setP_sorted (hV.op i hi).1.2.2.1) (by simp) (by omega) (by simp)) rfl rfl rfl rfl (Les.refl _)) ?_; refine .x (OpSem.pickF rfl rfl c53 rfl) ?_; refine .sq <| .cond rfl (fun c59 => ?_) (fun c59 => ?_)
        ·have hst : usB (nth t.ops i) (nth (nth t.ops i).add k) (usA (plusI (vaF v (nth t.ops i).pre) (nth t.ops i).cost) (nth t.ops i).add (nth (nth t.ops i).add k) (usP n (plusI (vaF v (nth t.ops i).pre) (nth t.ops i).cost) (nth t.ops i) (v, false) k) (nth t.ops i).add.length) (q + 1) = (usB (nth t.ops i) (nth (nth t.ops i).add k) (usA (plusI (vaF v (nth t.ops i).pre) (nth t.ops i).cost) (nth t.ops i).add (nth (nth t.ops i).add k) (usP n (plusI (vaF v (nth t.ops i).pre) (nth t.ops i).cost) (nth t.ops i) (v, false) k) (nth t.ops i).add.length) q) := by simp only [usB]; rw [if_pos (.inr (sub1_of c59))]
         refine .u <| .u <| .b <| .y <| .x .ad ?_; refine .m ?_; refine .n <| .again (q + 1) (by omega) ?_ (by omega); exact .p2 <| .slot rfl (Le.bo (by rw [hst])) <| .p5 <| .sl <| .slot rfl (Le.of_eq (by simp)) <| .memEq rfl (by rw [hst]) <| .all
        ·have hno : ¬ ((q : Int) ∈ (nth t.ops i).add ∨ (q : Int) ∈ (nth t.ops i).del) := fun h => h.elim (sub1_no c53) (sub1_no c59)
         have hst : usB (nth t.ops i) (nth (nth t.ops i).add k) (usA (plusI (vaF v (nth t.ops i).pre) (nth t.ops i).cost) (nth t.ops i).add (nth (nth t.ops i).add k) (usP n (plusI (vaF v (nth t.ops i).pre) (nth t.ops i).cost) (nth t.ops i) (v, false) k) (nth t.ops i).add.length) (q + 1) = orB (stP (usB (nth t.ops i) (nth (nth t.ops i).add k) (usA (plusI (vaF v (nth t.ops i).pre) (nth t.ops i).cost) (nth t.ops i).add (nth (nth t.ops i).add k) (usP n (plusI (vaF v (nth t.ops i).pre) (nth t.ops i).cost) (nth t.ops i) (v, false) k) (nth t.ops i).add.length) q).1 (nth (nth t.ops i).add k) q (usV (nth t.ops i) (usB (nth t.ops i) (nth (nth t.ops i).add k) (usA (plusI (vaF v (nth t.ops i).pre) (nth t.ops i).cost) (nth t.ops i).add (nth (nth t.ops i).add k) (usP n (plusI (vaF v (nth t.ops i).pre) (nth t.ops i).cost) (nth t.ops i) (v, false) k) (nth t.ops i).add.length) q).1 q)) (usB (nth t.ops i) (nth (nth t.ops i).add k) (usA (plusI (vaF v (nth t.ops i).pre) (nth t.ops i).cost) (nth t.ops i).add (nth (nth t.ops i).add k) (usP n (plusI (vaF v (nth t.ops i).pre) (nth t.ops i).cost) (nth t.ops i) (v, false) k) (nth t.ops i).add.length) q).2 := by simp only [usB]; rw [if_neg hno]
         refine .p <| .g <| .g <| PC.start [] ?_; refine .m ?_; refine .x (.f fo41_0) ?_; refine .x (.l vs22) ?_; refine .m ?_; refine .x (.bs es22 ze22) ?_; refine .x (OpSem.call0 (strips_Union_does (nth t.ops i).pre [(q : Int)] (by omega) (by simp)).fresh rfl rfl rfl rfl (Les.refl _)) ?_; refine .x (OpSem.callT (h := 0) (pairs_table_value_T g n L (usB (nth t.ops i) (nth (nth t.ops i).add k) (usA (plusI (vaF v (nth t.ops i).pre) (nth t.ops i).cost) (nth t.ops i).add (nth (nth t.ops i).add k) (usP n (plusI (vaF v (nth t.ops i).pre) (nth t.ops i).cost) (nth t.ops i) (v, false) k) (nth t.ops i).add.length) q).1 (hk.of hL hB1) hL (upS (nth t.ops i).pre [(q : Int)] []) (up1_set hV hn hi hq) (up1_len hV hn hi hq)) rfl rfl rfl rfl rfl) ?_; refine .x (.f fo41_3) ?_; refine .x (.l vs3) ?_; refine .d0 mixed ?_; refine .x (OpSem.call0 (relaxed_Plus_does (vaF (usB (nth t.ops i) (nth (nth t.ops i).add k) (usA (plusI (vaF v (nth t.ops i).pre) (nth t.ops i).cost) (nth t.ops i).add (nth (nth t.ops i).add k) (usP n (plusI (vaF v (nth t.ops i).pre) (nth t.ops i).cost) (nth t.ops i) (v, false) k) (nth t.ops i).add.length) q).1 (upS (nth t.ops i).pre [(q : Int)] [])) (nth t.ops i).cost hU1 ⟨hcs.1, by omega⟩) rfl rfl rfl rfl (Les.refl _)) ?_; refine .a ?_; refine .y <| .mm ?_; refine .mm ?_; refine .ofSt (OpSt.callT (h := 0) (pairs_table_set_T g n L (usB (nth t.ops i) (nth (nth t.ops i).add k) (usA (plusI (vaF v (nth t.ops i).pre) (nth t.ops i).cost) (nth t.ops i).add (nth (nth t.ops i).add k) (usP n (plusI (vaF v (nth t.ops i).pre) (nth t.ops i).cost) (nth t.ops i) (v, false) k) (nth t.ops i).add.length) q).1 (hk.of hL hB1) hL (nth (nth t.ops i).add k) (q : Int) (usV (nth t.ops i) (usB (nth t.ops i) (nth (nth t.ops i).add k) (usA (plusI (vaF v (nth t.ops i).pre) (nth t.ops i).cost) (nth t.ops i).add (nth (nth t.ops i).add k) (usP n (plusI (vaF v (nth t.ops i).pre) (nth t.ops i).cost) (nth t.ops i) (v, false) k) (nth t.ops i).add.length) q).1 q) (by omega) (by omega) (by omega) (by omega)) rfl rfl rfl rfl) rfl rfl rfl (by decide) ?_; refine .m ?_; refine .split (n := 75) rfl (fun c75 => ?_) (fun c75 => ?_)
         ·refine .hf c75 ?_; refine .x (OpSem.pickT rfl rfl c75 rfl) ?_; refine .a ?_; refine .n <| .n <| .y <| .x .ad ?_; refine .m ?_; refine .n <| .again (q + 1) (by omega) ?_ (by omega); exact .p2 <| .slot rfl (Le.bo (by rw [hst]; simp only [orB]; simp [c75])) <| .p5 <| .sl <| .slot rfl (Le.of_eq (by simp)) <| .memEq rfl (by rw [hst] <;> rfl) <| .all
         ·refine .ht c75 ?_; refine .m ?_; refine .x (OpSem.pickF rfl rfl c75 rfl) ?_; refine .a ?_; refine .n <| .n <| .y <| .x .ad ?_; refine .m ?_; refine .n <| .again (q + 1) (by omega) ?_ (by omega); exact .p2 <| .slot rfl (Le.bo (by rw [hst]; simp only [orB]; simp [c75])) <| .p5 <| .sl <| .slot rfl (Le.of_eq (by simp)) <| .memEq rfl (by rw [hst] <;> rfl) <| .all
      ·have hq : q = n := by simp at c46; omega
       subst hq
       refine .u <| .u <| .u <| .b <| .n <| .y <| .x .ad ?_; refine .m ?_; refine .n <| .again (k + 1) (by omega) ?_ (by omega); exact .p2 <| .slot rfl (Le.bo rfl) <| .p3 <| .slot rfl (Le.of_eq (by simp)) <| .all
  ·have hkl : k = (nth t.ops i).add.length := by simp at c24; omega
   subst hkl
   refine .u <| .u <| .u <| .b <| .z <| .m ?_; refine .a ?_; exact .sq <| .t <| .retP (.inl rfl) rfl (.tmp rfl <| .nil) rfl rfl (rfl) (fun H => rfl)
theorem pairs_find_does (t : Tsk) (s : List Int) (hV : TskV t) (hS : SetP t.facts s) : Does Tryz.prog false 38 [tskS t, .d (ints s)] (.d (rows (fdX t s))) := by
 have hf0 := hV.facts
 have hol := hV.ops
 have hn : (t.facts.toNat : Int) = t.facts := Int.toNat_of_nonneg hf0.1
 have hsl := setP_len2 hS hf0.2
 have hf := fea_0 (s := s) hV
 have hW := fdX_ok (s := s) hV
 refine Does.of_body Tryz.func38 rfl rfl (by simp) Tryz.call38 (fun w0 O0 => ?_); refine .lg 0 1 fun len0_1 => ?_; refine .lg 0 2 fun len0_2 => ?_; refine .lg 0 3 fun len0_3 => ?_; refine .le 1 fun len1 => ?_; refine .g <| .r <| .bx 2 ?_; refine .a ?_; refine .z <| .x (.f fo25_0) ?_; refine .x (.l vs3) ?_; refine .mk 13 es77 ze77 bye77 ?_; refine .a ?_; refine .sq <| .g <| .g <| .pin0 200 ?_; refine .pinOwn0 200 13 (l := List.replicate t.facts.toNat (.slice none 0 0)) rfl (by simp; rfl) (by decide) (fun a_ r_ c_ rt_ F_ g1_ g2_ hF_ => ?_)
 rw [List.length_replicate]
 rw [List.length_replicate] at g1_
 obtain ⟨hFe, hk0⟩ := pt_start (TR := 22) (TI := 3) (by omega) g1_ g2_ hF_
 refine .pinEq (h := 200) rfl hFe ?_; refine .r <| .m ?_; refine .x (OpSem.lenv rfl rfl es77) ?_; refine .m ?_; refine .sq <| .k <| .loop (X := (Nat × List Bk)) (fun q => q.1 ≤ t.facts.toNat ∧ q.2.length = q.1 ∧ PtOk (Pk.mk a_ r_ c_ rt_ 22 3) t.facts.toNat q.2 (fdI s t.facts.toNat q.1)) (fun q => [(1, .d (ints s)), (2, .r 2 0), (5, .d (.v (ptH (Pk.mk a_ r_ c_ rt_ 22 3) t.facts.toNat))), (15, I ((t.facts.toNat : Int))), (16, I ((q.1 : Int)))]) (fun q => [(200, .any (pinK (pqF (Pk.mk a_ r_ c_ rt_ 22 3) t.facts.toNat q.2 (fdI s t.facts.toNat q.1)))), (2, .box [I (t.facts), .d (ints t.ini), .d (ints t.goal), .d (sopsD t.ops)])]) (fun q => t.facts.toNat - q.1) (0, []) ⟨by omega, rfl, hk0⟩ ?_ ?_
 ·exact .p3 <| .slot rfl (Le.of_eq rfl) <| .slot rfl (Le.of_eq (by simp)) <| .all
 ·rintro q ⟨hq1, hqL, hq2⟩
  refine .g <| .r <| .x (.b blss) ?_; refine .sq <| .g <| .cond rfl (fun c17 => ?_) (fun c17 => ?_)
  ·have hql2 : q.1 < t.facts.toNat := by have := of_decide_eq_true c17; omega
   refine .p <| .g <| .g <| .k <| .g <| .r <| .m ?_; refine .a ?_; refine .z <| .mm ?_; refine .x (.f fo25_0) ?_; refine .x (.l vs3) ?_; refine .mk 23 es22 ze22 bye22 ?_; refine .x (OpSem.ptI hq2 rfl rfl rfl es77 (by omega) (by omega)) ?_; refine .pinRow 200 23 (l := iv (List.replicate t.facts.toNat 0)) rfl (by simp [iv]; rfl) (by decide) (fun h => by have := congrArg List.length h; simp [iv] at this; omega) (fun b_ cap_ tl_ hb_ g3_ g4_ => ?_)
   have hivl : (iv (List.replicate t.facts.toNat 0)).length = t.facts.toNat := by simp [iv]
   obtain ⟨L2, hL2⟩ : ∃ L2, q.2 ++ [(b_, cap_, tl_)] = L2 := ⟨_, rfl⟩
   have hlt : q.2.length < t.facts.toNat := by omega
   have hkL := hq2.add (b := b_) (tl := tl_) (row := fdW s t.facts.toNat q.1 0) hlt hb_ fdW_len ⟨by omega, g4_⟩
   have hadd := pt_add (row := fdW s t.facts.toNat q.1 0) (tl := tl_) (cap := cap_) hq2 hlt hb_ hivl
   rw [hL2] at hkL hadd
   have hL2l : L2.length = q.1 + 1 := by rw [← hL2]; simp; omega
   rw [fdW_0, hqL] at hadd
   rw [fdW_0] at hkL
   refine .ofSt0' (OpSt.storev (h := 200) rfl rfl rfl vs22 (pt_put hq2 hlt hb_) (by rw [List.length_append, hd_len hq2.ll]; simp; omega) rfl hadd) rfl rfl rfl ?_; refine .z <| .mm ?_; refine .x (OpSem.ptI hkL rfl rfl rfl es77 (by omega) (by omega)) ?_; refine .x (OpSem.ptR (h := 200) hkL rfl rfl rfl vs22 (by omega) (by omega)) ?_; refine .x (OpSem.lenv rfl rfl es22) ?_; refine .m ?_; refine .sq <| .k <| .loop (X := Nat) (fun j => j ≤ t.facts.toNat) (fun j => [(1, .d (ints s)), (2, .r 2 0), (5, .d (.v (ptH (Pk.mk a_ r_ c_ rt_ 22 3) t.facts.toNat))), (6, I ((q.1 : Int))), (15, I ((t.facts.toNat : Int))), (16, I ((q.1 : Int))), (29, I ((t.facts.toNat : Int))), (30, I (j))]) (fun j => [(200, .any (pinK (pqF (Pk.mk a_ r_ c_ rt_ 22 3) t.facts.toNat L2 (fdI s t.facts.toNat q.1 ++ [fdW s t.facts.toNat q.1 j])))), (2, .box [I (t.facts), .d (ints t.ini), .d (ints t.goal), .d (sopsD t.ops)])]) (fun j => t.facts.toNat - j) 0 (by omega) ?_ ?_
   ·exact .p5 <| .sl <| .slot rfl (Le.of_eq rfl) <| .slot rfl (Le.of_eq (by simp)) <| .memEq rfl (by rw [fdW_0] <;> rfl) <| .mem rfl <| .nil
   ·rintro j hjl
    refine .g <| .r <| .x (.b blss) ?_; refine .sq <| .g <| .cond rfl (fun c31 => ?_) (fun c31 => ?_)
    ·have hj : j < t.facts.toNat := by have := of_decide_eq_true c31; omega
     have hkJ : PtOk (Pk.mk a_ r_ c_ rt_ 22 3) t.facts.toNat L2 (fdI s t.facts.toNat q.1 ++ [fdW s t.facts.toNat q.1 j]) := ⟨hkL.a, hkL.nd, hkL.r, hkL.ll, by simp [fdI_len]; omega, fun i hi => fdIW_w (by simpa [fdI_len] using hi), hkL.c, hkL.m, hkL.rc⟩
     refine .p <| .g <| .g <| .k <| .g <| .r <| .m ?_; refine .a ?_; refine .z <| .mm ?_; refine .x (.bs es22 ze22) ?_; refine .x (OpSem.call0 (strips_Contains_does s [(q.1 : Int)] (setP_sorted hS) (by simp) (by omega) (by simp)) rfl rfl rfl rfl (Les.refl _)) ?_; refine .x .nt ?_; refine .m ?_; refine .split (n := 38) rfl (fun c38 => ?_) (fun c38 => ?_)
     ·have hno : ¬ ((q.1 : Int) ∈ s ∧ (j : Int) ∈ s) := fun h => sub1_no (by simpa using c38) h.1
      refine .hf c38 ?_; refine .hf c38 ?_; refine .hf c38 ?_; refine .hf c38 ?_; refine .hf c38 ?_; refine .x (OpSem.pickT rfl rfl c38 rfl) ?_; refine .sq <| .condT rfl rfl ?_; refine .r <| .mm ?_; refine .x (OpSem.ptI hkJ rfl rfl rfl es77 (by omega) (by omega)) ?_; refine .x (OpSem.ptR (h := 200) hkJ rfl rfl rfl vs22 (by omega) (by omega)) ?_; refine .m ?_; refine .x (.ixv es22) ?_; refine .ofSt0' (OpSt.ptC (h := 200) hkJ rfl rfl rfl vs3 (by omega) (by omega) (by omega) (by omega)) rfl rfl rfl ?_; refine .n <| .n <| .y <| .x .ad ?_; refine .m ?_; refine .n <| .again (j + 1) (by omega) ?_ (by omega); exact .p5 <| .p2 <| .slot rfl (Le.of_eq (by simp)) <| .memEq rfl (by rw [Int.toNat_natCast, Int.toNat_natCast, fdI_at, fdI_set, fdW_s1 hno (by omega)]) <| .mem rfl <| .nil
     ·refine .ht c38 ?_; refine .m ?_; refine .ht c38 ?_; refine .m ?_; refine .ht c38 ?_; refine .x (.bs es22 ze22) ?_; refine .ht c38 ?_; refine .x (OpSem.call0 (strips_Contains_does s [(j : Int)] (setP_sorted hS) (by simp) (by omega) (by simp)) rfl rfl rfl rfl (Les.refl _)) ?_; refine .ht c38 ?_; refine .x .nt ?_; refine .x (OpSem.pickF rfl rfl c38 rfl) ?_; refine .sq <| .cond rfl (fun c44 => ?_) (fun c44 => ?_)
      ·have hno : ¬ ((q.1 : Int) ∈ s ∧ (j : Int) ∈ s) := fun h => sub1_no (by simpa using c44) h.2
       refine .r <| .mm ?_; refine .x (OpSem.ptI hkJ rfl rfl rfl es77 (by omega) (by omega)) ?_; refine .x (OpSem.ptR (h := 200) hkJ rfl rfl rfl vs22 (by omega) (by omega)) ?_; refine .m ?_; refine .x (.ixv es22) ?_; refine .ofSt0' (OpSt.ptC (h := 200) hkJ rfl rfl rfl vs3 (by omega) (by omega) (by omega) (by omega)) rfl rfl rfl ?_; refine .n <| .n <| .y <| .x .ad ?_; refine .m ?_; refine .n <| .again (j + 1) (by omega) ?_ (by omega); exact .p5 <| .p2 <| .slot rfl (Le.of_eq (by simp)) <| .memEq rfl (by rw [Int.toNat_natCast, Int.toNat_natCast, fdI_at, fdI_set, fdW_s1 hno (by omega)]) <| .mem rfl <| .nil
      ·have hyes : (q.1 : Int) ∈ s ∧ (j : Int) ∈ s := ⟨sub1_of (by simpa using c38), sub1_of (by simpa using c44)⟩
       refine .p <| .n <| .y <| .x .ad ?_; refine .m ?_; refine .n <| .again (j + 1) (by omega) ?_ (by omega); exact .p5 <| .p2 <| .slot rfl (Le.of_eq (by simp)) <| .memEq rfl (by rw [← fdW_s2 hyes]) <| .mem rfl <| .nil
    ·have hj : j = t.facts.toNat := by have := of_decide_eq_false c31; omega
     subst hj
     refine .u <| .u <| .u <| .b <| .n <| .y <| .x .ad ?_; refine .m ?_; refine .n <| .again (q.1 + 1, L2) ⟨by simp only []; omega, hL2l, by simp only []; rw [fdI_s]; exact ⟨hkL.a, hkL.nd, hkL.r, hkL.ll, by simp [fdI_len]; omega, fun i hi => fdIW_w (by simpa [fdI_len] using hi), hkL.c, hkL.m, hkL.rc⟩⟩ ?_ (by simp only []; omega)
     exact .p3 <| .slot rfl (Le.of_eq rfl) <| .slot rfl (Le.of_eq (by simp)) <| .memEq rfl (by rw [fdI_s]) <| .mem rfl <| .nil
  ·have hql : q.1 = t.facts.toNat := by have := of_decide_eq_false c17; omega
   rw [hql] at hq2 hqL
   have hkq := hq2
   refine .u <| .u <| .u <| .b <| .g <| .g <| .g <| .r <| .a ?_; refine .sq <| .k <| .loop (X := (Mxx × Bool)) (fun x => PtI t.facts.toNat (fun _ => 0) x.1 ∧ (x.2 = true → FdR t x.1 (fdX t s)) ∧ (x.2 = false → x.1 = fdX t s)) (fun x => [(2, .r 2 0), (5, .d (.v (ptH (Pk.mk a_ r_ c_ rt_ 22 3) t.facts.toNat))), (8, Bo (x.2))]) (fun x => [(200, .any (pinK (pqF (Pk.mk a_ r_ c_ rt_ 22 3) t.facts.toNat q.2 x.1))), (2, .box [I (t.facts), .d (ints t.ini), .d (ints t.goal), .d (sopsD t.ops)])]) (fun x => 2 * msum x.1 + (if x.2 = true then 1 else 0)) (fd0 t s, true) ⟨fd0_p hV hf, fun _ => hW, fun h => by cases h⟩ ?_ ?_
   ·exact .p2 <| .slot rfl (Le.bo rfl) <| .memEq rfl (by rw [hql] <;> rfl) <| .mem rfl <| .nil
   ·rintro x ⟨hx1, hx2, hx3⟩
    refine .g <| .g <| .r <| .m ?_; refine .sq <| .cond rfl (fun c53 => ?_) (fun c53 => ?_)
    ·have hR := hx2 c53
     refine .p <| .g <| .k <| .g <| .r <| .a ?_; refine .z <| .x (.f fo25_3) ?_; refine .x (.l vs23) ?_; refine .x (.n es23) ?_; refine .m ?_; refine .sq <| .k <| .loop (X := Nat) (fun i => i ≤ t.ops.length) (fun i => [(2, .r 2 0), (5, .d (.v (ptH (Pk.mk a_ r_ c_ rt_ 22 3) t.facts.toNat))), (8, Bo ((fdP t x.1 i).2)), (55, .d (sopsD t.ops)), (56, I (t.ops.length)), (57, I (i))]) (fun i => [(200, .any (pinK (pqF (Pk.mk a_ r_ c_ rt_ 22 3) t.facts.toNat q.2 ((fdP t x.1 i).1)))), (2, .box [I (t.facts), .d (ints t.ini), .d (ints t.goal), .d (sopsD t.ops)])]) (fun i => t.ops.length - i) 0 (by omega) ?_ ?_
     ·exact .p2 <| .slot rfl (Le.bo rfl) <| .p2 <| .slot rfl (Le.of_eq (by simp)) <| .all
     ·rintro i hil
      refine .g <| .r <| .x (.b blss) ?_; refine .sq <| .g <| .cond rfl (fun c58 => ?_) (fun c58 => ?_)
      ·have hi : i < t.ops.length := by simpa using c58
       have hPi := (fdP_p hV hf hx1 (i := i) (by omega)).1
       refine .p <| .g <| .g <| .k <| .g <| .r <| .x (.i es23) ?_; refine .x (.lN vs41) ?_; refine .al 10 zc41 ?_; refine .sb vs41 ?_; refine .y <| .m ?_; refine .x (.L vs41) ?_; refine .ofSt (OpSt.callT (h := 200) (pairs_table_use_T (Pk.mk a_ r_ c_ rt_ 22 3) t.facts.toNat q.2 (fdP t x.1 i).1 (hq2.of hqL hPi) hqL t hV i hi hn hPi) rfl rfl rfl rfl) rfl rfl rfl (by decide) ?_; refine .m ?_; refine .split (n := 64) rfl (fun c64 => ?_) (fun c64 => ?_)
       ·refine .hf c64 ?_; refine .x (OpSem.pickT rfl rfl c64 rfl) ?_; refine .a ?_; refine .n <| .n <| .y <| .x .ad ?_; refine .m ?_; refine .n <| .again (i + 1) (by omega) ?_ (by omega); exact .p2 <| .slot rfl (Le.bo (by simp only [fdP, orB]; simp [c64])) <| .p2 <| .slot rfl (Le.of_eq (by simp)) <| .all
       ·refine .ht c64 ?_; refine .m ?_; refine .x (OpSem.pickF rfl rfl c64 rfl) ?_; refine .a ?_; refine .n <| .n <| .y <| .x .ad ?_; refine .m ?_; refine .n <| .again (i + 1) (by omega) ?_ (by omega); exact .p2 <| .slot rfl (Le.bo (by simp only [fdP, orB]; simp [c64])) <| .p2 <| .slot rfl (Le.of_eq (by simp)) <| .all
      ·have hi : i = t.ops.length := by simp at c58; omega
       subst hi
       obtain ⟨hE1, hE2⟩ := fdP_p hV hf hx1 (Nat.le_refl _)
       refine .u <| .u <| .u <| .b <| .n <| .again (fdP t x.1 t.ops.length) ⟨hE1, fun h => hR.inv.1 h, fun h => hR.inv.2 h⟩ ?_ (by exact fd_mu hE2 c53); exact .p2 <| .slot rfl (Le.bo rfl) <| .all
    ·have hE := hx3 c53
     refine .u <| .u <| .u <| .b <| .g <| .g <| .freezeP 200 5 rfl rfl (fun O w h H => pt_rep (hq2.of hqL hx1) hqL h H) ?_
     rw [hE]
     refine .r <| .m ?_; refine .a ?_; exact .sq <| .t <| .ret rfl (.tmp rfl <| .nil) rfl (Le.of_eq rfl)
theorem pairs_Goal_does (t : Tsk) (s : List Int) : Does Tryz.prog false 12 [tskS t, .d (ints s)] (.t [I (prG t s), flt (sttF t s)]) := by
 refine Does.of_body Tryz.func12 rfl rfl (by simp) Tryz.call12 (fun w0 O0 => ?_); refine .lg 0 1 fun len0_1 => ?_; refine .lg 0 2 fun len0_2 => ?_; refine .lg 0 3 fun len0_3 => ?_; refine .le 1 fun len1 => ?_; refine .g <| .r <| .bx 2 ?_; refine .a ?_; refine .al 5 zc28 ?_; refine .sq <| .g <| .g <| .r <| .x (.L vs25) ?_; refine .m ?_; refine .x (OpSem.call0 (strips_StateFault_does t s) rfl rfl rfl rfl (Les.refl _)) ?_; refine .al 6 zc28 ?_; refine .sb vs28 ?_; refine .z <| .x (.L vs28) ?_; refine .x (.bd pl28 zc28) ?_; refine .x (OpSem.neS2 rfl rfl rfl io28) ?_; refine .sq <| .cond rfl (fun c12 => ?_) (fun c12 => ?_)
 ·have hne : sttF t s ≠ (0, 0) := fun h => by simp [h] at c12
  have hg : prG t s = 0 := by unfold prG; rw [if_neg hne]
  refine .g <| PC.start [] ?_; refine .x (.L vs28) ?_; refine .x (OpSem.move (.inr rfl) rfl) ?_; refine .d0 mixed ?_; refine .sb vs28 ?_; exact .sq <| .t <| .t <| .ret rfl (.tmp rfl <| .cellN rfl rfl vs28 <| .nil) rfl (Le.t (.cons (Le.i hg.symm) <| .cons (.refl _) <| .nil))
 ·have h0 : sttF t s = (0, 0) := pair0 (by simpa using c12)
  obtain ⟨hV, hS⟩ := sttF_ok h0
  have hf0 := hV.facts
  have hn : (t.facts.toNat : Int) = t.facts := Int.toNat_of_nonneg hf0.1
  have hgl := setP_len2 hV.goal hf0.2
  have hX := fdX_p (s := s) hV (fea_0 (s := s) hV)
  have hg : prG t s = vaF (fdX t s) t.goal := by unfold prG; rw [if_pos h0]
  refine .p <| .g <| .g <| PC.start [] ?_; refine .x (.L vs25) ?_; refine .m ?_; refine .x (OpSem.call0 (pairs_find_does t s hV hS) rfl rfl rfl rfl (Les.refl _)) ?_; refine .x (.f fo25_2) ?_; refine .x (.l vs22) ?_; refine .x (OpSem.call0 (pairs_table_value_does t.facts.toNat (fdX t s) hX.l hX.w t.goal (fun k h => by rw [hn]; exact set_rng hV.goal k h) (by omega)) rfl rfl rfl rfl (Les.refl _)) ?_; refine .x (.bd pl28 zc28) ?_; refine .x (OpSem.move (.inr rfl) rfl) ?_; refine .d0 mixed ?_; refine .sb vs28 ?_; exact .sq <| .t <| .ret rfl (.tmp rfl <| .cellN rfl rfl vs28 <| .nil) rfl (Le.t (.cons (Le.i hg.symm) <| .cons (Le.flt h0.symm) <| .nil))
end Go.Proofs.YthjmgcopfipabaaGreat
end

section
namespace Go.Proofs.YthjmgcopfipabaaGreat
open Go.Eng
set_option maxRecDepth 10000
set_option maxHeartbeats 1000000
theorem counting_Bound_does (t : Tsk) (o : Option (Int × Int)) (hS : cpF t = (0, 0) → SolR (cpA t) o) : Does Tryz.prog false 15 [tskS t] (.t [flt (bdR t o), flt (cpF t)]) := by
 refine Does.of_body Tryz.func15 rfl rfl (by simp) Tryz.call15 (fun w0 O0 => ?_); refine .lg 0 1 fun len0_1 => ?_; refine .lg 0 2 fun len0_2 => ?_; refine .lg 0 3 fun len0_3 => ?_; refine .g <| .r <| .bx 1 ?_; refine .al 2 zc45 ?_; refine .al 3 zc28 ?_; refine .z <| .x (.L vs25) ?_; refine .x (OpSem.call0 (counting_Program_does t) rfl rfl rfl rfl (Les.refl _)) ?_; refine .m ?_; refine .x .xt ?_; refine .x .xt ?_; refine .al 4 zc81 ?_; refine .al 5 zc28 ?_; refine .sb vs81 ?_; refine .sb vs28 ?_; refine .sq <| .g <| .g <| .r <| .x (.L vs28) ?_; refine .x (.bd pl28 zc28) ?_; refine .x (OpSem.neS2 rfl rfl rfl io28) ?_; refine .sq <| .cond rfl (fun c14 => ?_) (fun c14 => ?_)
 ·have hne : cpF t ≠ (0, 0) := fun h => by simp [h] at c14
  refine .g <| PC.start [2] ?_; refine .x (.bd pl45 zc45) ?_; refine .x (.L vs28) ?_; refine .storeb 100002 rfl rfl rfl rfl rfl rfl rfl vs45 (by first | decide | simp) ?_; refine .dn mixed ?_; refine .sb vs28 ?_; exact .sq <| .t <| .t <| .ret rfl (.cellN rfl rfl vs45 <| .cellN rfl rfl vs28 <| .nil) rfl (Le.t (.cons (Le.flt (bd_1 hne)) <| .cons (.refl _) <| .nil))
 ·have h0 : cpF t = (0, 0) := pair0 (by simpa using c14)
  have hin := (hS h0).in
  refine .p <| .z <| .x (.L vs81) ?_; refine .x (OpSem.call0 (linear_Solve_does (cpR t) (by rw [← cpR_0 h0]; exact cpA_ok h0) o (by rw [← cpR_0 h0]; exact hS h0)) rfl rfl rfl rfl (Les.refl _)) ?_; refine .m ?_; refine .x .xt ?_; refine .x .xt ?_; refine .al 6 zc87 ?_; refine .sb vs87 ?_; refine .sb vs28 ?_; refine .sq <| .g <| .k <| .g <| .r <| .x (.L vs28) ?_; refine .x (.bd pl28 zc28) ?_; refine .x (OpSem.neS2 rfl rfl rfl io28) ?_; refine .a ?_; refine .sq <| .cond rfl (fun c22 => ?_) (fun c22 => ?_)
  ·exfalso; simp at c22
  ·refine .g <| .r <| .x (.f fo87_0) ?_; refine .x (.l vs3) ?_; refine .x (.b bneq) ?_; refine .a ?_; refine .sq <| .cond rfl (fun c28 => ?_) (fun c28 => ?_)
   ·have h2 : solT o ≠ 1 := by simpa using c28
    refine .g <| PC.start [2] ?_; refine .x (.bd pl45 zc45) ?_; refine .x (.L vs28) ?_; refine .storeb 100002 rfl rfl rfl rfl rfl rfl rfl vs45 (by first | decide | simp) ?_; refine .dn mixed ?_; refine .sb vs28 ?_; exact .sq <| .t <| .k <| .t <| .ret rfl (.cellN rfl rfl vs45 <| .cellN rfl rfl vs28 <| .nil) rfl (Le.t (.cons (Le.flt (bd_2 h0 h2)) <| .cons (Le.flt h0.symm) <| .nil))
   ·have h2 : solT o = 1 := by simpa using c28
    refine .p <| .n <| .g <| .g <| PC.start [2] ?_; refine .x (.f fo87_1) ?_; refine .x (.f fo45_0) ?_; refine .x (.l vs3) ?_; refine .x (OpSem.neg rfl rfl (neg_in (by omega) (by omega))) ?_; refine .x (.f fo87_1) ?_; refine .x (.f fo45_1) ?_; refine .x (.l vs3) ?_; refine .x (.bd pl45 zc45) ?_; refine .x (.L vs28) ?_; refine .storeb 100009 rfl rfl rfl rfl rfl rfl rfl vs45 (by first | decide | simp) ?_; refine .dn mixed ?_; refine .sb vs28 ?_; exact .sq <| .t <| .ret rfl (.cellN rfl rfl vs45 <| .cellN rfl rfl vs28 <| .nil) rfl (Le.t (.cons (Le.flt (bd_0 h0 h2)) <| .cons (Le.flt h0.symm) <| .nil))
end Go.Proofs.YthjmgcopfipabaaGreat
end

section
namespace Go.Eng
def HaI (t : Tsk) (s : List Int) (p x : Int) : Prop := x < 999999999 → ∃ l : List Nat, (∀ i, i ∈ l → i < t.ops.length) ∧ rxF t (· ∈ s) l p ∧ csO t l ≤ x
section
variable {t : Tsk} {s f v : List Int}
theorem suT_seq (hV : TskV t) (hv : VlP t.facts v) (hf : ∀ k : Nat, k < f.length → 0 ≤ nth f k ∧ nth f k < t.facts) (h : ∀ p : Int, 0 ≤ p → p < t.facts → HaI t s p (nth v p)) : ∀ {k : Nat}, k ≤ f.length → suT v f k < 999999999 →
  ∃ l : List Nat, (∀ i, i ∈ l → i < t.ops.length) ∧ (∀ j : Nat, j < k → rxF t (· ∈ s) l (nth f j)) ∧ csO t l ≤ suT v f k
 | 0, _, _ => ⟨[], by simp, fun j hj => by omega, Int.le_refl _⟩
 | k + 1, hk, hlt => by
  have hp := hf k (by omega)
  have hr := hv.r _ hp.1 hp.2
  have hs := suT_in hv hf (k := k) (by omega)
  have he : suT v f (k + 1) = plusI (suT v f k) (nth v (nth f k)) := rfl
  rw [he] at hlt ⊢
  have h1 : suT v f k < 999999999 ∧ nth v (nth f k) < 999999999 ∧ plusI (suT v f k) (nth v (nth f k)) = suT v f k + nth v (nth f k) := by
   unfold plusI at hlt ⊢
   split at hlt
   ·omega
   ·rename_i hc; rw [if_neg hc]; omega
  obtain ⟨l, l1, l2, l3⟩ := suT_seq hV hv hf h (k := k) (by omega) h1.1
  obtain ⟨m, m1, m2, m3⟩ := h _ hp.1 hp.2 h1.2.1
  refine ⟨l ++ m, fun i hi => (List.mem_append.1 hi).elim (l1 i) (m1 i), fun j hj => ?_, by rw [csO_app, h1.2.2]; omega⟩
  by_cases hjk : j = k
  ·subst hjk; exact rxF_app2 _ m2
  ·rw [rxF_app]; exact rxF_ext _ (l2 j (by omega))
theorem su_seq (hV : TskV t) (hv : VlP t.facts v) (hf : SetP t.facts f) (h : ∀ p : Int, 0 ≤ p → p < t.facts → HaI t s p (nth v p)) (hlt : suF v f < 999999999) : ∃ l : List Nat, Rx t s f l ∧ csO t l ≤ suF v f := by
 obtain ⟨l, l1, l2, l3⟩ := suT_seq hV hv (set_rng hf) h (Nat.le_refl _) hlt
 refine ⟨l, ⟨l1, fun p hp => ?_⟩, l3⟩
 obtain ⟨j, hj, rfl⟩ := List.getElem_of_mem hp
 have := l2 j hj
 rw [nth_eq hj] at this; exact this
theorem hadd_i (hV : TskV t) (hs : ∀ p, p ∈ s → 0 ≤ p ∧ p < t.facts) : VlP t.facts (vlW t s (cssF t) suF) ∧ ∀ p : Int, 0 ≤ p → p < t.facts → HaI t s p (nth (vlW t s (cssF t) suF) p) := by
 refine (vlW_ok hV (css_v hV) su_cmb hs).keep (I := fun y => VlP t.facts y ∧ ∀ p : Int, 0 ≤ p → p < t.facts → HaI t s p (nth y p)) (fun x y i p hx hy hi hp hlt => ?_) ⟨vl0_v hV.facts.1 hs, fun p p0 p1 => ?_⟩
 ·have hr := setP_mem (hV.op i hi).1.2.1 hp
  have hcs := (hV.op i hi).2
  refine ⟨vlP_v hV (css_v hV) su_cmb x y i p hx.1 hy.1 hi hp, fun q q0 q1 => ?_⟩
  have hl := hy.1.l
  rw [nth_sI hr.1 (by omega) q0 (by omega)]
  split
  ·rename_i hqp
   subst hqp
   intro hx9
   have hg := su_cmb x _ hx.1 (hV.op i hi).1.1
   have he : vlV t (cssF t) suF x i = plusI (suF x (nth t.ops i).pre) (nth t.ops i).cost := by unfold vlV; rw [css_at hi]
   rw [he] at hx9 ⊢
   have h1 : suF x (nth t.ops i).pre < 999999999 ∧ plusI (suF x (nth t.ops i).pre) (nth t.ops i).cost = suF x (nth t.ops i).pre + (nth t.ops i).cost := by
    unfold plusI at hx9 ⊢
    split at hx9
    ·omega
    ·rename_i hc; rw [if_neg hc]; omega
   obtain ⟨l, l1, l2⟩ := su_seq hV hx.1 (hV.op i hi).1.1 hx.2 h1.1
   refine ⟨l ++ [i], fun j hj => (List.mem_append.1 hj).elim (l1.i j) (fun h => by simp at h; omega), ?_, by rw [csO_app, h1.2]; simp [csO]; omega⟩
   rw [rxF_snoc]
   exact .inr ⟨l1.g, hp⟩
  ·exact hy.2 q q0 q1
 ·rw [vl0_at hV.facts.1 hs p0 p1]
  split
  ·rename_i hm; exact fun _ => ⟨[], by simp, hm, by simp [csO]⟩
  ·intro h; omega
theorem csO_le (hV : TskV t) : ∀ {l : List Nat}, (∀ i, i ∈ l → i < t.ops.length) → csO t l ≤ 100 * l.length
 | [], _ => by simp [csO]
 | i :: l, h => by
  have h1 := (hV.op i (h i (by simp))).2
  have h2 := csO_le hV (l := l) (fun j hj => h j (by simp [hj]))
  simp only [csO, List.length_cons]; omega
theorem plN_len {l : List Int} : (plN l).length = l.length := by simp [plN]
theorem nat_len {H : List Nat} {n : Nat} (hp : H.Pairwise (· < ·)) (hr : ∀ e, e ∈ H → e < n) : H.length ≤ n := by
 have := pw_lt_len (n := (n : Int)) (x := 0) (l := H.map fun (e : Nat) => (e : Int)) (by rw [List.pairwise_map]; exact hp.imp fun h => by omega) (fun y hy => by
  obtain ⟨e, he, rfl⟩ := List.mem_map.1 hy
  have := hr e he; omega)
 simp at this; omega
theorem hiV_le {m : Cuts} (hV : TskV t) (hC : CutsP t s (cssF t) m) (hL : ¬ hiL m) : hiV t m ≤ 1000000000 := by
 obtain ⟨U, hU⟩ : ∃ U, hiU m = U := ⟨_, rfl⟩
 have hmem : ∀ x : Int, x ∈ U ↔ ∃ c, c ∈ m ∧ x ∈ c.1 := fun x => by rw [← hU]; exact hiU_mem
 have hl : m.length ≤ 16 ∧ U.length ≤ 16 := by unfold hiL at hL; rw [hU] at hL; omega
 have hrg : ∀ x, x ∈ U → 0 ≤ x ∧ x < t.ops.length := fun x hx => by
  obtain ⟨c, hc, hx⟩ := (hmem x).1 hx
  exact (hC.e c hc).2.2.2.1 x hx
 have hcl : (hiC t U U.length).length = U.length := by simp [hiC]
 have hsl : (hiS U m m.length).length = m.length := by simp [hiS]
 have hcc := hiC_rng hV hrg
 have hP := hbO_p (sets := hiS U m m.length) (by omega) hcc (Nat.le_refl _)
 have hp1 : 0 < (2 : Nat) ^ m.length := Nat.pow_pos (by omega)
 have hv : hiV t m = (nth (hbO (hiS U m m.length) (hiC t U U.length) (hiC t U U.length).length) ((2 ^ m.length - 1 : Nat) : Int)).1 := by
  unfold hiV hbF
  rw [hU, hsl]
  congr 2; omega
 rw [hv]
 rcases hP.s (2 ^ m.length - 1) (by rw [hsl]; omega) with q | ⟨_, H, b1, b2, b3, b4⟩
 ·rw [q]; exact Int.le_refl _
 ·rw [b4]
  have h1 := (coL_rng hcc b2).2
  have h2 := nat_len b1 b2
  omega
structure EstP (t : Tsk) (s : List Int) : Prop where
 ab : estG t s gmF ≤ (cutW t s).2
 ap : estG t s gmF ≤ prG t s
 bc : (hiE t s).1 = 0 → (cutW t s).2 ≤ hiR t s
 cd : (hiE t s).1 = 0 → (beE t s).1 = 0 → hiR t s ≤ beV t s
 de : (beE t s).1 = 0 → estG t s suF < 999999999 → beV t s ≤ estG t s suF
 ok : (beE t s).1 = 0 → (plY t s = true ↔ beV t s < 1000000000)
 pl : plY t s = true → (∀ o, o ∈ plQ t s → 0 ≤ o ∧ o < t.ops.length) ∧ (plQ t s).length ≤ 40
 ds : (beE t s).1 = 0 → plY t s = true → beV t s ≤ csO t (plN (plQ t s))
theorem be_ok (h0 : sttF t s = (0, 0)) (h : (beE t s).1 = 0) : ∃ J, BeOk t s J := Classical.byContradiction fun hn => by
 rw [← (be_2 h0 hn).2] at h; cases h
theorem est_p (h0 : sttF t s = (0, 0)) : EstP t s := by
 obtain ⟨hV, hS⟩ := sttF_ok h0
 have hs : ∀ p, p ∈ s → 0 ≤ p ∧ p < t.facts := fun p hp => setP_mem hS hp
 have hct : CtV t s (cssF t) := ⟨hV, hs, css_v hV⟩
 have hga : estG t s gmF = gM t s (cssF t) := by rw [estG_0 h0]; rfl
 have hgr := hct.gr
 have hol := hV.ops
 have hplr : plB t s → ∃ l, Rx t s t.goal l ∧ csO t l ≤ 4000 := fun hB => by
  obtain ⟨r1, r2, r3⟩ := pl_spec hV hs hB
  have := csO_le hV r1.i
  rw [plN_len] at this
  exact ⟨_, r1, by omega⟩
 have hsm := (css_v hV).sum
 refine ⟨?_, (pr_spec h0).1, fun he => ?_, fun he hb => ?_, fun hb hlt => ?_, fun hb => ?_, fun hy => ?_, fun hb hy => ?_⟩
 ·rw [hga]
  by_cases hT : (cutW t s).2 = 1000000000
  ·rw [hT]; exact hgr.2
  ·obtain ⟨c1, c2⟩ := hi_cuts h0 hT
   rw [c2]; exact c1.g
 ·by_cases hT : (cutW t s).2 = 1000000000
  ·rw [← (hi_1 (.inr hT)).1]; exact Int.le_refl _
  ·have hn : ¬ (sttF t s ≠ (0, 0) ∨ (cutW t s).2 = 1000000000) := fun h => h.elim (fun h => h h0) hT
   by_cases hL : hiL (cutW t s).1
   ·rw [← (hi_2 hn hL).2] at he; cases he
   ·obtain ⟨c1, c2⟩ := hi_cuts h0 hT
    rw [← (hi_0 hn hL).1, c2]; exact (hi_spec hV c1 hL).1
 ·obtain ⟨J, hJ⟩ := be_ok h0 hb
  obtain ⟨b1, b2, b3⟩ := be_spec h0 hJ
  by_cases hT : (cutW t s).2 = 1000000000
  ·rw [← (hi_1 (.inr hT)).1, hT]
   rcases fn_spec (fnW_ok hV hs) hct with ⟨_, h2⟩ | ⟨m, h1, h2⟩
   ·refine Int.not_lt.1 fun hlt => ?_
    obtain ⟨l, hl, _⟩ := b2 hlt
    exact h2 l hl
   ·rw [cutW_0 h0, h1] at hT
    have := h2.m
    simp only [Int.zero_add] at hT; omega
  ·have hn : ¬ (sttF t s ≠ (0, 0) ∨ (cutW t s).2 = 1000000000) := fun h => h.elim (fun h => h h0) hT
   by_cases hL : hiL (cutW t s).1
   ·rw [← (hi_2 hn hL).2] at he; cases he
   ·obtain ⟨c1, c2⟩ := hi_cuts h0 hT
    rw [← (hi_0 hn hL).1]
    by_cases hlt : beV t s < 1000000000
    ·obtain ⟨l, hl, e⟩ := b2 hlt
     rw [← e]; exact (hi_spec hV c1 hL).2.2 l hl
    ·exact Int.le_trans (hiV_le hV c1 hL) (by omega)
 ·obtain ⟨J, hJ⟩ := be_ok h0 hb
  obtain ⟨b1, b2, b3⟩ := be_spec h0 hJ
  obtain ⟨a1, a2⟩ := hadd_i hV hs
  rw [estG_0 h0] at hlt ⊢
  obtain ⟨l, hl, hc⟩ := su_seq hV a1 hV.goal a2 hlt
  exact Int.le_trans (b3 l hl) hc
 ·obtain ⟨J, hJ⟩ := be_ok h0 hb
  obtain ⟨b1, b2, b3⟩ := be_spec h0 hJ
  by_cases hO : plO t s
  ·rw [(plY_t hO).2]
   refine ⟨fun _ => ?_, fun _ => rfl⟩
   obtain ⟨l, hl, hc⟩ := hplr hO.2
   have := b3 l hl; omega
  ·rw [(plY_f hO).2]
   refine ⟨(fun h => by cases h), fun hlt => ?_⟩
   obtain ⟨l, hl, _⟩ := b2 hlt
   exact absurd ⟨h0, pl_ok hV hs hl⟩ hO
 ·by_cases hO : plO t s
  ·rw [(plY_t hO).1]
   obtain ⟨r1, r2, r3⟩ := pl_spec hV hs hO.2
   exact ⟨r2, by omega⟩
  ·rw [(plY_f hO).2] at hy; cases hy
 ·obtain ⟨J, hJ⟩ := be_ok h0 hb
  obtain ⟨b1, b2, b3⟩ := be_spec h0 hJ
  by_cases hO : plO t s
  ·rw [(plY_t hO).1]
   exact b3 _ (pl_spec hV hs hO.2).1
  ·rw [(plY_f hO).2] at hy; cases hy
theorem plQ_r (h : EstP t s) : (∀ o, o ∈ plQ t s → 0 ≤ o ∧ o < t.ops.length) ∧ (plQ t s).length ≤ 40 := by
 by_cases hO : plO t s
 ·exact h.pl (plY_t hO).2
 ·rw [(plY_f hO).1]; exact ⟨fun o ho => by simp at ho, by simp⟩
def smL2 (t : Tsk) (l : List Int) (k : Nat) : Int := csO t (plN (l.take k))
theorem smL2_s {l : List Int} {k : Nat} (hk : k < l.length) (h0 : 0 ≤ nth l k) : smL2 t l (k + 1) = smL2 t l k + (nth t.ops (nth l k)).cost := by
 unfold smL2
 rw [tk_s hk, plN_snoc, csO_app]
 simp only [csO]
 rw [Int.toNat_of_nonneg h0]; omega
theorem smL2_r (hV : TskV t) {l : List Int} (hl : ∀ o, o ∈ l → 0 ≤ o ∧ o < t.ops.length) {k : Nat} (hk : k ≤ l.length) : 0 ≤ smL2 t l k ∧ smL2 t l k ≤ 100 * k := by
 have hm : ∀ i, i ∈ plN (l.take k) → i < t.ops.length := fun i hi => by
  obtain ⟨o, ho, rfl⟩ := List.mem_map.1 hi
  have := hl o (List.mem_of_mem_take ho); omega
 refine ⟨csO_0 hV hm, ?_⟩
 have := csO_le hV hm
 rw [plN_len, List.length_take] at this
 unfold smL2; omega
theorem smL2_e {l : List Int} : smL2 t l l.length = csO t (plN l) := by unfold smL2; rw [List.take_length]
end
abbrev t2 : Tsk := ⟨2, [], [1], [⟨[], [0], [], 2⟩, ⟨[0], [1], [], 3⟩]⟩
theorem t2_f : tskF t2 = (0, 0) := by decide +kernel
theorem t2_s : sttF t2 [] = (0, 0) := by decide +kernel
theorem t2_j : BeOk t2 [] 3 := by
 have h : (boW t2 [] 3).length = 3 ∧ (∀ j, j < 3 → j < (boW t2 [] j).length ∧ (boW t2 [] (j + 1)).length ≤ 2000) := by decide +kernel
 exact ⟨h.1.symm, h.2⟩
theorem t2_rx : Rx t2 [] t2.goal [0, 1] ∧ csO t2 [0, 1] = 5 := by
 refine ⟨⟨fun i hi => by simp at hi; rcases hi with rfl | rfl <;> decide, fun p hp => ?_⟩, by decide +kernel⟩
 have : p = 1 := by simpa using hp
 subst this
 refine .inr ⟨fun q hq => ?_, by decide⟩
 have : q = 0 := by revert hq; simp [nth]
 subst this
 exact .inr ⟨fun q hq => by revert hq; simp [nth], by decide⟩
theorem t2_g : 5 ≤ gM t2 [] (cssF t2) := by
 obtain ⟨hV, hS⟩ := sttF_ok t2_s
 have hf : Fea t2 [] (cssF t2) fun p => if p = 0 then 2 else if p = 1 then 5 else 0 := by
  refine ⟨fun p hp => by simp at hp, fun p _ _ => by show (if p = 0 then (2 : Int) else _) ≤ _; split; decide; split <;> decide, fun i hi p hp b b0 b1 hq => ?_⟩
  have hi2 : i = 0 ∨ i = 1 := by have hi : i < 2 := hi; omega
  rcases hi2 with rfl | rfl
  ·have : p = 0 := by revert hp; simp [nth]
   subst this
   show (2 : Int) ≤ plusI b 2
   unfold plusI; split <;> omega
  ·have : p = 1 := by revert hp; simp [nth]
   subst this
   have h2 : (2 : Int) ≤ b := by have := hq 0 (by decide); simpa using this
   show (5 : Int) ≤ plusI b 3
   unfold plusI; split <;> omega
 have h1 := fea_le hV (css_v hV) (fun p hp => by simp at hp) hf 1 (by decide) (by decide)
 have h2 := gm_ge (v := vlW t2 [] (cssF t2) gmF) (f := t2.goal) (p := 1) (by simp)
 have h1 : (5 : Int) ≤ nth (vlW t2 [] (cssF t2) gmF) 1 := by simpa using h1
 exact Int.le_trans h1 h2
theorem t2_v : (hiR t2 [] = 5 ∧ hiE t2 [] = (0, 0)) ∧ beV t2 [] = 5 ∧ beE t2 [] = (0, 0) := by
 obtain ⟨hV, hS⟩ := sttF_ok t2_s
 have hs : ∀ p : Int, p ∈ ([] : List Int) → 0 ≤ p ∧ p < t2.facts := fun p hp => by simp at hp
 obtain ⟨hr, hc5⟩ := t2_rx
 have hT : (cutW t2 []).2 ≠ 1000000000 := fun hT => by
  rcases fn_spec (fnW_ok hV hs) ⟨hV, hs, css_v hV⟩ with ⟨_, h2⟩ | ⟨m, h1, h2⟩
  ·exact h2 _ hr
  ·rw [cutW_0 t2_s, h1] at hT
   have h3 := h2.m
   have h4 : (cssF t2).sum = 5 := by decide +kernel
   simp only [Int.zero_add] at hT; omega
 obtain ⟨c1, c2⟩ := hi_cuts t2_s hT
 have hsum : (cssF t2).sum = 5 := by decide +kernel
 have hm := c1.m
 have hn := c1.n
 have hg := c1.g
 have h5 := t2_g
 have hL : ¬ hiL (cutW t2 []).1 := by
  have hU := pw_lt_len (n := 2) (x := 0) (hiU_lt (m := (cutW t2 []).1)) (fun y hy => by
   obtain ⟨c, hc, hy⟩ := hiU_mem.1 hy
   exact (c1.e c hc).2.2.2.1 y hy)
  unfold hiL
  omega
 obtain ⟨s1, s2, s3⟩ := hi_spec hV c1 hL
 have hn2 : ¬ (sttF t2 [] ≠ (0, 0) ∨ (cutW t2 []).2 = 1000000000) := fun h => h.elim (fun h => h t2_s) hT
 obtain ⟨e1, e2⟩ := hi_0 hn2 hL
 obtain ⟨b1, b2, b3⟩ := be_spec t2_s t2_j
 have u1 := s3 _ hr
 have u2 := b3 _ hr
 obtain ⟨l, hl, hle⟩ := b2 (by omega)
 have u3 := s3 l hl
 exact ⟨⟨by omega, e2.symm⟩, by omega, (be_0 t2_s t2_j).2.symm⟩
end Go.Eng
end

section
namespace Go.Eng
theorem t2_l : ¬ CLarge t2 := by decide +kernel
theorem t2_c : cpF t2 = (0, 0) := (cpF_0 t2_f t2_l).symm
theorem t2_two {i : Nat} (hi : i < t2.ops.length) : i = 0 ∨ i = 1 := by have hi : i < 2 := hi; omega
theorem t2_r0 {q : Int} (h : Rch t2 [] (useP t2 0) q) : False := by
 induction h with
 | base h => cases h
 | @op i p hi hu hp hm ih =>
  rcases t2_two hi with rfl | rfl
  ·revert hu; decide
  ·exact ih 0 (by decide)
theorem t2_r1 {q : Int} (h : Rch t2 [] (useP t2 1) q) : q = 0 := by
 cases h with
 | base h => cases h
 | @op i _ hi hu hp hm =>
  rcases t2_two hi with rfl | rfl
  ·revert hm; simp [nth]
  ·exact absurd hu (by decide)
theorem t2_r1' : Rch t2 [] (useP t2 1) 0 := .op (i := 0) (by decide) (by decide) (fun q hq => by revert hq; simp [nth]) (by decide)
theorem t2_lm0 : lmP t2 0 = true := by
 unfold lmP
 have : ¬ AllP (wtoL t2 0) t2.goal := fun h => t2_r0 ((cloL_at (t := t2) (s := t2.ini) (use := useP t2 0) (p := 1) (by omega) (by decide)).1 (h 0 (by simp)))
 simp [this]
theorem t2_lm1 : lmP t2 1 = true := by
 unfold lmP
 have : ¬ AllP (wtoL t2 1) t2.goal := fun h => by
  have := t2_r1 ((cloL_at (t := t2) (s := t2.ini) (use := useP t2 1) (p := 1) (by omega) (by decide)).1 (h 0 (by simp)))
  omega
 simp [this]
theorem t2_ac0 : acL t2 0 = [0] := by
 have h0 : acP t2 0 0 = true := by
  unfold acP
  have : AllP (wtoL t2 0) (nth t2.ops 0).pre := fun k hk => by simp [nth] at hk
  simp [this]
  decide
 have h1 : ¬ acP t2 0 1 = true := by
  unfold acP
  have : ¬ (0 : Int) ∈ (nth t2.ops (1 : Nat)).add := by decide
  simp
  intro h
  exact absurd h this
 show acTo t2 0 (1 + 1) = [0]
 rw [ac_f h1, show (1 : Nat) = 0 + 1 from rfl, ac_t h0]; rfl
theorem t2_ac1 : acL t2 1 = [1] := by
 have h0 : ¬ acP t2 1 0 = true := by
  unfold acP
  have : ¬ (1 : Int) ∈ (nth t2.ops (0 : Nat)).add := by decide
  simp
  intro h
  exact absurd h this
 have h1 : acP t2 1 1 = true := by
  unfold acP
  have : AllP (wtoL t2 1) (nth t2.ops (1 : Nat)).pre := fun k hk => by
   have hk0 : k = 0 := by have hk : k < 1 := hk; omega
   subst hk0
   exact (cloL_at (t := t2) (s := t2.ini) (use := useP t2 1) (p := 0) (by omega) (by decide)).2 t2_r1'
  have h3 : (1 : Int) ∈ (nth t2.ops (1 : Nat)).add := by decide
  rw [decide_eq_true this, decide_eq_true h3]; rfl
 show acTo t2 1 (1 + 1) = [1]
 rw [ac_t h1, show (1 : Nat) = 0 + 1 from rfl, ac_f h0]; rfl
theorem t2_p : cpA t2 = ⟨[[0, -1], [-1, 0], [0, -1]], [-1, -1, -1], [-2, -3]⟩ := by
 have hl : lmNTo t2 2 = [0, 1] := by
  have e1 : lmNTo t2 (0 + 1) = lmNTo t2 0 ++ [((0 : Nat) : Int)] := lmN_t t2_lm0 (by simp)
  have e2 : lmNTo t2 (1 + 1) = lmNTo t2 1 ++ [((1 : Nat) : Int)] := lmN_t t2_lm1 (by simp)
  exact e2.trans (by rw [show lmNTo t2 1 = _ from e1]; rfl)
 have hr0 : lRow t2 0 = [-1, 0] := by unfold lRow; rw [t2_ac0]; rfl
 have hr1 : lRow t2 1 = [0, -1] := by unfold lRow; rw [t2_ac1]; rfl
 have h1 : allR t2 2 = [[0, -1], [-1, 0], [0, -1]] := by unfold allR; rw [hl]; simp [hr0, hr1]; decide +kernel
 have h2 : allB t2 2 = [-1, -1, -1] := by unfold allB; rw [hl]; rfl
 have e1 := cpA_r t2
 have e2 := cpA_b t2
 have e3 : (cpA t2).obj = [-2, -3] := rfl
 have e0 : t2.facts.toNat = 2 := rfl
 rw [e0, h1] at e1
 rw [e0, h2] at e2
 cases hc : cpA t2 with
 | mk a b c => rw [hc] at e1 e2 e3; simp at e1 e2 e3; rw [e1, e2, e3]
theorem t2_so : SolR (cpA t2) (some (-5, 1)) := by
 rw [t2_p]
 exact solF_ok (f := 30) (by decide +kernel)
theorem t2_bd : bdR t2 (some (-5, 1)) = (5, 1) := by rw [← bd_0 t2_c rfl]; rfl
end Go.Eng
end

section
namespace Go.Proofs.YthjmgcopfipabaaGreat
open Go.Eng
set_option maxRecDepth 10000
set_option maxHeartbeats 1000000
theorem R_StateOk_does (t : Tsk) (s : List Int) (hf : 0 ≤ t.facts ∧ t.facts ≤ 24) : Does Tryz.prog false 17 [tskS t, .d (ints s)] (Bo (decide (SetP t.facts s))) := by
 refine Does.of_body Tryz.func17 rfl rfl (by simp) Tryz.call17 (fun w0 O0 => ?_); refine .lg 0 1 fun len0_1 => ?_; refine .lg 0 2 fun len0_2 => ?_; refine .lg 0 3 fun len0_3 => ?_; refine .le 1 fun len1 => ?_; refine .g <| .r <| .bx 2 ?_; refine .a ?_; refine .z <| .m ?_; refine .x (.f fo25_0) ?_; refine .x (.l vs3) ?_; refine .x (OpSem.call0 (R_IsSet_does s t.facts (by omega)) rfl rfl rfl rfl (Les.refl _)) ?_; refine .a ?_; exact .sq <| .t <| .ret rfl (.tmp rfl <| .nil) rfl (.refl _)
theorem R_StateFault_does (t : Tsk) (s : List Int) : Does Tryz.prog false 5 [tskS t, .d (ints s)] (flt (sttF t s)) := by
 refine Does.of_body Tryz.func5 rfl rfl (by simp) Tryz.call5 (fun w0 O0 => ?_); refine .lg 0 1 fun len0_1 => ?_; refine .lg 0 2 fun len0_2 => ?_; refine .lg 0 3 fun len0_3 => ?_; refine .le 1 fun len1 => ?_; refine .g <| .r <| .bx 2 ?_; refine .al 4 zc28 ?_; refine .z <| .x (.L vs25) ?_; refine .x (OpSem.call0 (R_TaskFault_does t) rfl rfl rfl rfl (Les.refl _)) ?_; refine .al 5 zc28 ?_; refine .sb vs28 ?_; refine .sq <| .cut [(4, .r 4 0), (5, .r 5 0)] [(4, .box [I (0), I (0)]), (5, .box [I ((sttF t s).1), I ((sttF t s).2)])] ?_ ?_
 ·refine .g <| .r <| .x (.f fo28_0) ?_; refine .x (.l vs3) ?_; refine .x (.b beql) ?_; refine .m ?_; refine .split (n := 11) rfl (fun c11 => ?_) (fun c11 => ?_)
  ·have h0 : tskF t = (0, 0) := tskF_code (by simpa using c11)
   refine .gt c11 ?_; refine .x (.L vs25) ?_; refine .gt c11 ?_; refine .m ?_; refine .gt c11 ?_; refine .x (OpSem.call0 (R_StateOk_does t s (tskF_v h0).facts) rfl rfl rfl rfl (Les.refl _)) ?_; refine .gt c11 ?_; refine .x .nt ?_; refine .x (OpSem.pickT rfl rfl c11 rfl) ?_; refine .sq <| .cond rfl (fun c16 => ?_) (fun c16 => ?_)
   ·have hst : (5, -4) = sttF t s := sttF_2 h0 (by simpa using c16)
    refine .r <| .x (OpSem.call0 (R_At_does ..) rfl rfl rfl rfl (Les.refl _)) ?_; refine .sb vs28 ?_; exact .n <| .meet <| .p2 <| .mem rfl <| .boxLe rfl (.cons (Le.i (congrArg Prod.fst (hst))) <| .cons (Le.i (congrArg Prod.snd (hst))) <| .nil) <| .nil
   ·have hst : tskF t = sttF t s := by rw [h0]; exact sttF_0 h0 (by simpa using c16)
    exact .p <| .meet <| .p2 <| .mem rfl <| .boxLe rfl (.cons (Le.i (congrArg Prod.fst (hst))) <| .cons (Le.i (congrArg Prod.snd (hst))) <| .nil) <| .nil
  ·have hst : tskF t = sttF t s := sttF_1 (fun h => by simp [h] at c11)
   refine .gf c11 ?_; refine .gf c11 ?_; refine .gf c11 ?_; refine .gf c11 ?_; refine .x (OpSem.pickF rfl rfl c11 rfl) ?_; refine .sq <| .condF rfl rfl ?_; exact .p <| .meet <| .p2 <| .mem rfl <| .boxLe rfl (.cons (Le.i (congrArg Prod.fst (hst))) <| .cons (Le.i (congrArg Prod.snd (hst))) <| .nil) <| .nil
 ·refine .g <| .r <| .x (.L vs28) ?_; refine .sb vs28 ?_; exact .sq <| .t <| .ret rfl (.cellN rfl rfl vs28 <| .nil) rfl (Le.flt rfl)
theorem helmsmantop_mlTwo_does  : Does Tryz.prog false 14 [] (tskS t2) := by
 refine Does.of_body Tryz.func14 rfl rfl (by simp) Tryz.call14 (fun w0 O0 => ?_); refine .g <| .r <| .al 0 zc25 ?_; refine .z <| .x (OpSem.le (s' := .d (ints [1])) (.bs es22 ze22) (Le.of_eq rfl)) ?_; refine .x (OpSem.le (s' := .d (ints [0])) (.bs es22 ze22) (Le.of_eq rfl)) ?_; refine .x (OpSem.le (s' := sopS ⟨[], [0], [], 2⟩) (.bd pl41 zc41) (Le.g (.cons (Le.nil 1) <| .cons (.refl _) <| .cons (Le.nil 1) <| .cons (.refl _) <| .nil))) ?_; refine .x (OpSem.le (s' := .d (ints [0])) (.bs es22 ze22) (Le.of_eq rfl)) ?_; refine .x (OpSem.le (s' := .d (ints [1])) (.bs es22 ze22) (Le.of_eq rfl)) ?_; refine .x (OpSem.le (s' := sopS ⟨[0], [1], [], 3⟩) (.bd pl41 zc41) (Le.g (.cons (.refl _) <| .cons (.refl _) <| .cons (Le.nil 1) <| .cons (.refl _) <| .nil))) ?_; refine .x (OpSem.le (s' := .d (sopsD t2.ops)) (.bs es23 ze23) (Le.of_eq rfl)) ?_; refine .x (OpSem.le (s' := tskS t2) (.bd pl25 zc25) (Le.g (.cons (.refl _) <| .cons (Le.nil 1) <| .cons (.refl _) <| .cons (.refl _) <| .nil))) ?_; refine .sb vs25 ?_; exact .sq <| .t <| .ret rfl (.cellN rfl rfl vs25 <| .nil) rfl (Le.of_eq rfl)
theorem helmsmantop_mlBounds_does  : Does Tryz.prog false 4 [] (Bo true) := by
 refine Does.of_body Tryz.func4 rfl rfl (by simp) Tryz.call4 (fun w0 O0 => ?_); refine .g <| .r <| .a ?_; refine .z <| .x (OpSem.call0 (helmsmantop_mlTwo_does) rfl rfl rfl rfl (Les.refl _)) ?_; refine .x (OpSem.call0 (relaxplan_Best_does t2 []) rfl rfl rfl rfl (.cons (.refl _) <| .cons (.nil _) <| .nil)) ?_; refine .m ?_; refine .x .xt ?_; refine .x .xt ?_; refine .al 2 zc28 ?_; refine .a ?_; refine .sb vs28 ?_; refine .z <| .x (OpSem.call0 (helmsmantop_mlTwo_does) rfl rfl rfl rfl (Les.refl _)) ?_; refine .x (OpSem.call0 (hitting_Bound_does t2 []) rfl rfl rfl rfl (.cons (.refl _) <| .cons (.nil _) <| .nil)) ?_; refine .m ?_; refine .x .xt ?_; refine .x .xt ?_; refine .al 4 zc28 ?_; refine .a ?_; refine .sb vs28 ?_; refine .z <| .x (OpSem.call0 (helmsmantop_mlTwo_does) rfl rfl rfl rfl (Les.refl _)) ?_; refine .x (OpSem.call0 (counting_Bound_does t2 (some (-5, 1)) (fun _ => t2_so)) rfl rfl rfl rfl (Les.refl _)) ?_; refine .m ?_; refine .x .xt ?_; refine .x .xt ?_; refine .al 5 zc45 ?_; refine .al 6 zc28 ?_; refine .sb vs45 ?_; refine .sb vs28 ?_; refine .z <| .x (.f fo28_0) ?_; refine .x (.l vs3) ?_; refine .x (.b beql) ?_; refine .m ?_; refine .gT rfl rfl rfl rfl (by rw [t2_v.2.2]; rfl) ?_; refine .x (.f fo28_0) ?_; refine .gT rfl rfl rfl rfl (by rw [t2_v.2.2]; rfl) ?_; refine .x (.l vs3) ?_; refine .gT rfl rfl rfl rfl (by rw [t2_v.2.2]; rfl) ?_; refine .x (.b beql) ?_; refine .x (OpSem.pickT rfl rfl (by rw [t2_v.2.2]; rfl) rfl) ?_; refine .m ?_; refine .gT rfl rfl rfl rfl (by rw [t2_v.1.2]; rfl) ?_; refine .x (.f fo28_0) ?_; refine .gT rfl rfl rfl rfl (by rw [t2_v.1.2]; rfl) ?_; refine .x (.l vs3) ?_; refine .gT rfl rfl rfl rfl (by rw [t2_v.1.2]; rfl) ?_; refine .x (.b beql) ?_; refine .x (OpSem.pickT rfl rfl (by rw [t2_v.1.2]; rfl) rfl) ?_; refine .m ?_; refine .gT rfl rfl rfl rfl (by rw [t2_c]; rfl) ?_; refine .m ?_; refine .gT rfl rfl rfl rfl (by rw [t2_c]; rfl) ?_; refine .x (.b beql) ?_; refine .x (OpSem.pickT rfl rfl (by rw [t2_c]; rfl) rfl) ?_; refine .m ?_; refine .gT rfl rfl rfl rfl (by rw [t2_v.2.1]; rfl) ?_; refine .m ?_; refine .gT rfl rfl rfl rfl (by rw [t2_v.2.1]; rfl) ?_; refine .x (.b beql) ?_; refine .x (OpSem.pickT rfl rfl (by rw [t2_v.2.1]; rfl) rfl) ?_; refine .m ?_; refine .gT rfl rfl rfl rfl (by rw [t2_v.1.1]; rfl) ?_; refine .x (.L vs45) ?_; refine .gT rfl rfl rfl rfl (by rw [t2_v.1.1]; rfl) ?_; refine .x (.bd pl45 zc45) ?_; refine .gT rfl rfl rfl rfl (by rw [t2_v.1.1]; rfl) ?_; refine .x (OpSem.eqS2 rfl rfl rfl io45) ?_; refine .x (OpSem.pickT rfl rfl (by rw [t2_v.1.1]; rfl) rfl) ?_; refine .a ?_
 exact .sq <| .t <| .ret rfl (.tmp rfl <| .nil) rfl (Le.bo (by rw [t2_bd]; rfl))
theorem helmsmantop_TopEstimatesInOrder_does (t : Tsk) (s : List Int) : Does Tryz.prog false 3 [tskS t, .d (ints s)] (Bo true) := by
 refine Does.of_body Tryz.func3 rfl rfl (by simp) Tryz.call3 (fun w0 O0 => ?_); refine .lg 0 1 fun len0_1 => ?_; refine .lg 0 2 fun len0_2 => ?_; refine .lg 0 3 fun len0_3 => ?_; refine .le 1 fun len1 => ?_; refine .g <| .r <| .bx 2 ?_; refine .a ?_; refine .sq <| .g <| .g <| .r <| .x (OpSem.call0 (helmsmantop_mlBounds_does) rfl rfl rfl rfl (Les.refl _)) ?_; refine .x .nt ?_; refine .sq <| .condF rfl rfl ?_; refine .p <| .g <| .g <| .g <| .r <| .x (.L vs25) ?_; refine .m ?_; refine .x (OpSem.call0 (R_StateFault_does t s) rfl rfl rfl rfl (Les.refl _)) ?_; refine .x (OpSem.field1 rfl rfl f1_28_0 rfl) ?_; refine .x (.b bneq) ?_; refine .sq <| .cond rfl (fun c31 => ?_) (fun c31 => ?_)
 ·refine .g <| .r <| .a ?_; exact .sq <| .t <| .t <| .ret rfl (.tmp rfl <| .nil) rfl (Le.bo (by first | rfl | (simp; omega)))
 ·have h0 : sttF t s = (0, 0) := sttF_code (by simpa using c31)
  have h01 : (sttF t s).1 = 0 := by rw [h0]
  obtain ⟨hV, hS⟩ := sttF_ok h0
  have hol := hV.ops
  have hE := est_p h0
  obtain ⟨hq1, hq2⟩ := plQ_r hE
  refine .p <| .z <| .x (.L vs25) ?_; refine .m ?_; refine .x (OpSem.call0 (relaxed_Max_does t s) rfl rfl rfl rfl (Les.refl _)) ?_; refine .m ?_; refine .x .xt ?_; refine .x .xt ?_; refine .x .xt ?_; refine .al 7 zc28 ?_; refine .a ?_; refine .a ?_; refine .sb vs28 ?_; refine .z <| .x (.L vs25) ?_; refine .m ?_; refine .x (OpSem.call0 (lmcut_Cuts_does t s) rfl rfl rfl rfl (Les.refl _)) ?_; refine .m ?_; refine .x .xt ?_; refine .x .xt ?_; refine .x .xt ?_; refine .al 10 zc28 ?_; refine .a ?_; refine .a ?_; refine .sb vs28 ?_; refine .z <| .x (.L vs25) ?_; refine .m ?_; refine .x (OpSem.call0 (hitting_Bound_does t s) rfl rfl rfl rfl (Les.refl _)) ?_; refine .m ?_; refine .x .xt ?_; refine .x .xt ?_; refine .al 12 zc28 ?_; refine .a ?_; refine .sb vs28 ?_; refine .z <| .x (.L vs25) ?_; refine .m ?_; refine .x (OpSem.call0 (relaxplan_Best_does t s) rfl rfl rfl rfl (Les.refl _)) ?_; refine .m ?_; refine .x .xt ?_; refine .x .xt ?_; refine .al 14 zc28 ?_; refine .a ?_; refine .sb vs28 ?_; refine .z <| .x (.L vs25) ?_; refine .m ?_; refine .x (OpSem.call0 (relaxed_Add_does t s) rfl rfl rfl rfl (Les.refl _)) ?_; refine .m ?_; refine .x .xt ?_; refine .x .xt ?_; refine .x .xt ?_; refine .al 17 zc28 ?_; refine .a ?_; refine .a ?_; refine .sb vs28 ?_; refine .z <| .x (.L vs25) ?_; refine .m ?_; refine .x (OpSem.call0 (relaxplan_Plan_does t s) rfl rfl rfl rfl (Les.refl _)) ?_; refine .m ?_; refine .x .xt ?_; refine .x .xt ?_; refine .x .xt ?_; refine .al 20 zc28 ?_; refine .a ?_; refine .a ?_; refine .sb vs28 ?_; refine .z <| .x (.L vs25) ?_; refine .m ?_; refine .x (OpSem.call0 (pairs_Goal_does t s) rfl rfl rfl rfl (Les.refl _)) ?_; refine .m ?_; refine .x .xt ?_; refine .x .xt ?_; refine .al 22 zc28 ?_; refine .a ?_; refine .sb vs28 ?_; refine .sq <| .g <| .g <| .r <| .x (.f fo28_0) ?_; refine .x (.l vs3) ?_
  refine .x (.f fo28_0) ?_; refine .x (.l vs3) ?_; refine .x .ad ?_; refine .x (.f fo28_0) ?_; refine .x (.l vs3) ?_; refine .x .ad ?_; refine .x (.f fo28_0) ?_; refine .x (.l vs3) ?_; refine .x .ad ?_; refine .x (.f fo28_0) ?_; refine .x (.l vs3) ?_; refine .x .ad ?_; refine .x (.b bneq) ?_; refine .m ?_; refine .gT rfl rfl rfl rfl (by simp [h01]) ?_; refine .m ?_; refine .gT rfl rfl rfl rfl (by simp [h01]) ?_; refine .m ?_; refine .gT rfl rfl rfl rfl (by simp [h01]) ?_; refine .x (.b bgtr) ?_; refine .x (OpSem.pickF rfl rfl (by simp [h01]) rfl) ?_; refine .m ?_; refine .gT rfl rfl rfl rfl (by have := hE.ab; simp; omega) ?_; refine .m ?_; refine .gT rfl rfl rfl rfl (by have := hE.ab; simp; omega) ?_; refine .m ?_; refine .gT rfl rfl rfl rfl (by have := hE.ab; simp; omega) ?_; refine .x (.b bgtr) ?_; refine .x (OpSem.pickF rfl rfl (by have := hE.ab; simp; omega) rfl) ?_; refine .sq <| .condF rfl (by have := hE.ap; simp; omega) ?_; refine .p <| .g <| .g <| .g <| .r <| .x (.f fo28_0) ?_; refine .x (.l vs3) ?_; refine .x (.b bneq) ?_; refine .m ?_; refine .split (n := 106) rfl (fun c106 => ?_) (fun c106 => ?_)
  ·refine .hf c106 ?_; refine .hf c106 ?_; refine .hf c106 ?_; refine .x (OpSem.pickT rfl rfl c106 rfl) ?_; refine .sq <| .condT rfl rfl ?_; refine .g <| .r <| .a ?_; exact .sq <| .t <| .t <| .ret rfl (.tmp rfl <| .nil) rfl (Le.bo (by first | rfl | (simp; omega)))
  ·have hi0 : (hiE t s).1 = 0 := by simpa using c106
   refine .ht c106 ?_; refine .x (.f fo28_0) ?_; refine .ht c106 ?_; refine .x (.l vs3) ?_; refine .ht c106 ?_; refine .x (.b bneq) ?_; refine .x (OpSem.pickF rfl rfl c106 rfl) ?_; refine .sq <| .cond rfl (fun c110 => ?_) (fun c110 => ?_)
   ·refine .g <| .r <| .a ?_; exact .sq <| .t <| .t <| .ret rfl (.tmp rfl <| .nil) rfl (Le.bo (by first | rfl | (simp; omega)))
   ·have be0 : (beE t s).1 = 0 := by simpa using c110
    refine .p <| .g <| .g <| .g <| .r <| .mm ?_; refine .x (.b bgtr) ?_; refine .m ?_; refine .gT rfl rfl rfl rfl (by have := hE.bc hi0; simp; omega) ?_; refine .m ?_; refine .gT rfl rfl rfl rfl (by have := hE.bc hi0; simp; omega) ?_; refine .m ?_; refine .gT rfl rfl rfl rfl (by have := hE.bc hi0; simp; omega) ?_; refine .x (.b bgtr) ?_; refine .x (OpSem.pickF rfl rfl (by have := hE.bc hi0; simp; omega) rfl) ?_; refine .m ?_; refine .gT rfl rfl rfl rfl (by have := hE.cd hi0 be0; simp; omega) ?_; refine .m ?_; refine .gT rfl rfl rfl rfl (by have := hE.cd hi0 be0; simp; omega) ?_; refine .m ?_; refine .gT rfl rfl rfl rfl (by have := hE.cd hi0 be0; simp; omega) ?_; refine .x (.b bgtr) ?_; refine .gT rfl rfl rfl rfl (by have := hE.cd hi0 be0; simp; omega) ?_; refine .m ?_; refine .split (n := 123) rfl (fun c123 => ?_) (fun c123 => ?_)
    ·refine .gt c123 ?_; refine .m ?_; refine .gt c123 ?_; refine .x (.b blss) ?_; refine .gT rfl rfl rfl rfl (by have := hE.cd hi0 be0; simp; omega) ?_; refine .x (OpSem.pickT rfl rfl c123 rfl) ?_; refine .x (OpSem.pickF rfl rfl (by have := hE.cd hi0 be0; simp; omega) rfl) ?_; refine .sq <| .condF rfl (by simp; exact Int.not_lt.1 fun h => by have := hE.de be0 h; simp at c123; omega) ?_; refine .p <| .z <| .a ?_; refine .sq <| .g <| .g <| .r <| .a ?_; refine .sq <| .k <| .loop (X := Nat) (fun k => k ≤ (plQ t s).length) (fun k => [(2, .r 2 0), (13, I (beV t s)), (18, .d (ints (plQ t s))), (19, Bo (plY t s)), (23, I (smL2 t (plQ t s) k)), (24, I (k))]) (fun k => [(2, .box [I (t.facts), .d (ints t.ini), .d (ints t.goal), .d (sopsD t.ops)])]) (fun k => (plQ t s).length - k) 0 (by omega) ?_ ?_
     ·exact .p3 <| .sl <| .slot rfl (Le.of_eq rfl) <| .slot rfl (Le.of_eq (by simp)) <| .mem rfl <| .nil
     ·rintro k hkl
      refine .g <| .g <| .r <| .mm ?_; refine .x (.n es22) ?_; refine .x (.b blss) ?_; refine .sq <| .cond rfl (fun c131 => ?_) (fun c131 => ?_)
      ·have hk : k < (plQ t s).length := by simpa using c131
       have hrk := hq1 _ (nth_mem (l := (plQ t s)) (n := (k : Int)) (by omega) (by omega))
       have hsr := smL2_r hV hq1 (k := k) (by omega)
       have hco : 0 ≤ (nth t.ops (nth (plQ t s) k)).cost ∧ (nth t.ops (nth (plQ t s) k)).cost ≤ 100 := by obtain ⟨o, ho⟩ := Int.eq_ofNat_of_zero_le hrk.1; rw [ho]; exact (hV.op o (by omega)).2
       refine .p <| .g <| .g <| .k <| .g <| .g <| PC.start [] ?_; refine .mm ?_; refine .x (.i es22) ?_; refine .x (.l1 vs3) ?_; refine .x (.f fo25_3) ?_; refine .x (.l vs23) ?_; refine .x (.n es23) ?_; refine .x .su ?_; refine .d0 mixed ?_; refine .x (OpSem.call0 (R_In_does ..) rfl rfl rfl rfl (Les.refl _)) ?_; refine .x .nt ?_; refine .sq <| .cond rfl (fun c143 => ?_) (fun c143 => ?_)
       ·exfalso; simp at c143; omega
       ·refine .p <| .g <| PC.start [] ?_; refine .m ?_; refine .x (.f fo25_3) ?_; refine .x (.l vs23) ?_; refine .mm ?_; refine .x (.i es22) ?_; refine .x (.l1 vs3) ?_; refine .x (.i es23) ?_; refine .x (OpSem.fieldp rfl rfl fo41_3) ?_; refine .x (.l1 vs3) ?_; refine .d0 mixed ?_; refine .x .ad ?_; refine .a ?_; refine .n <| .n <| .y <| .m ?_; refine .x .ad ?_; refine .a ?_; refine .n <| .again (k + 1) (by omega) ?_ (by omega); exact .p3 <| .sl <| .slot rfl (Le.i (smL2_s hk hrk.1).symm) <| .slot rfl (Le.of_eq (by simp)) <| .mem rfl <| .nil
      ·have hk : k = (plQ t s).length := by simp at c131; omega
       subst hk
       refine .u <| .u <| .u <| .b <| .z <| .mm ?_; refine .x (.b blss) ?_; refine .x (OpSem.eqB rfl rfl rfl ub4) ?_; refine .m ?_; refine .gT rfl rfl rfl rfl (by have := hE.ok be0; cases h : plY t s <;> simp [h] at this ⊢ <;> omega) ?_; refine .m ?_; refine .gT rfl rfl rfl rfl (by have := hE.ok be0; cases h : plY t s <;> simp [h] at this ⊢ <;> omega) ?_; refine .x .nt ?_; refine .gT rfl rfl rfl rfl (by have := hE.ok be0; cases h : plY t s <;> simp [h] at this ⊢ <;> omega) ?_; refine .m ?_; refine .split (n := 162) rfl (fun c162 => ?_) (fun c162 => ?_)
       ·refine .hf c162 ?_; refine .hf c162 ?_; refine .hf c162 ?_; refine .gT rfl rfl rfl rfl (by have := hE.ok be0; cases h : plY t s <;> simp [h] at this ⊢ <;> omega) ?_; refine .x (OpSem.pickT rfl rfl c162 rfl) ?_; refine .x (OpSem.pickT rfl rfl (by have := hE.ok be0; cases h : plY t s <;> simp [h] at this ⊢ <;> omega) rfl) ?_; refine .a ?_; exact .sq <| .t <| .ret rfl (.tmp rfl <| .nil) rfl (Le.bo (by first | rfl | (simp; omega)))
       ·have hds := hE.ds be0 (by simpa using c162)
        rw [← smL2_e] at hds
        refine .ht c162 ?_; refine .m ?_; refine .ht c162 ?_; refine .m ?_; refine .ht c162 ?_; refine .x (.b bleq) ?_; refine .gT rfl rfl rfl rfl (by have := hE.ok be0; cases h : plY t s <;> simp [h] at this ⊢ <;> omega) ?_; refine .x (OpSem.pickF rfl rfl c162 rfl) ?_; refine .x (OpSem.pickT rfl rfl (by have := hE.ok be0; cases h : plY t s <;> simp [h] at this ⊢ <;> omega) rfl) ?_; refine .a ?_; exact .sq <| .t <| .ret rfl (.tmp rfl <| .nil) rfl (Le.bo (by first | rfl | (simp; omega)))
    ·refine .gf c123 ?_; refine .gf c123 ?_; refine .gT rfl rfl rfl rfl (by have := hE.cd hi0 be0; simp; omega) ?_; refine .x (OpSem.pickF rfl rfl c123 rfl) ?_; refine .x (OpSem.pickF rfl rfl (by have := hE.cd hi0 be0; simp; omega) rfl) ?_; refine .sq <| .condF rfl rfl ?_; refine .p <| .z <| .a ?_; refine .sq <| .g <| .g <| .r <| .a ?_; refine .sq <| .k <| .loop (X := Nat) (fun k => k ≤ (plQ t s).length) (fun k => [(2, .r 2 0), (13, I (beV t s)), (18, .d (ints (plQ t s))), (19, Bo (plY t s)), (23, I (smL2 t (plQ t s) k)), (24, I (k))]) (fun k => [(2, .box [I (t.facts), .d (ints t.ini), .d (ints t.goal), .d (sopsD t.ops)])]) (fun k => (plQ t s).length - k) 0 (by omega) ?_ ?_
     ·exact .p3 <| .sl <| .slot rfl (Le.of_eq rfl) <| .slot rfl (Le.of_eq (by simp)) <| .mem rfl <| .nil
     ·rintro k hkl
      refine .g <| .g <| .r <| .mm ?_; refine .x (.n es22) ?_; refine .x (.b blss) ?_; refine .sq <| .cond rfl (fun c131 => ?_) (fun c131 => ?_)
      ·have hk : k < (plQ t s).length := by simpa using c131
       have hrk := hq1 _ (nth_mem (l := (plQ t s)) (n := (k : Int)) (by omega) (by omega))
       have hsr := smL2_r hV hq1 (k := k) (by omega)
       have hco : 0 ≤ (nth t.ops (nth (plQ t s) k)).cost ∧ (nth t.ops (nth (plQ t s) k)).cost ≤ 100 := by obtain ⟨o, ho⟩ := Int.eq_ofNat_of_zero_le hrk.1; rw [ho]; exact (hV.op o (by omega)).2
       refine .p <| .g <| .g <| .k <| .g <| .g <| PC.start [] ?_; refine .mm ?_; refine .x (.i es22) ?_; refine .x (.l1 vs3) ?_; refine .x (.f fo25_3) ?_; refine .x (.l vs23) ?_; refine .x (.n es23) ?_; refine .x .su ?_; refine .d0 mixed ?_; refine .x (OpSem.call0 (R_In_does ..) rfl rfl rfl rfl (Les.refl _)) ?_; refine .x .nt ?_; refine .sq <| .cond rfl (fun c143 => ?_) (fun c143 => ?_)
       ·exfalso; simp at c143; omega
       ·refine .p <| .g <| PC.start [] ?_; refine .m ?_; refine .x (.f fo25_3) ?_; refine .x (.l vs23) ?_; refine .mm ?_; refine .x (.i es22) ?_; refine .x (.l1 vs3) ?_; refine .x (.i es23) ?_; refine .x (OpSem.fieldp rfl rfl fo41_3) ?_; refine .x (.l1 vs3) ?_; refine .d0 mixed ?_; refine .x .ad ?_; refine .a ?_; refine .n <| .n <| .y <| .m ?_; refine .x .ad ?_; refine .a ?_; refine .n <| .again (k + 1) (by omega) ?_ (by omega); exact .p3 <| .sl <| .slot rfl (Le.i (smL2_s hk hrk.1).symm) <| .slot rfl (Le.of_eq (by simp)) <| .mem rfl <| .nil
      ·have hk : k = (plQ t s).length := by simp at c131; omega
       subst hk
       refine .u <| .u <| .u <| .b <| .z <| .mm ?_; refine .x (.b blss) ?_; refine .x (OpSem.eqB rfl rfl rfl ub4) ?_; refine .m ?_; refine .gT rfl rfl rfl rfl (by have := hE.ok be0; cases h : plY t s <;> simp [h] at this ⊢ <;> omega) ?_; refine .m ?_; refine .gT rfl rfl rfl rfl (by have := hE.ok be0; cases h : plY t s <;> simp [h] at this ⊢ <;> omega) ?_; refine .x .nt ?_; refine .gT rfl rfl rfl rfl (by have := hE.ok be0; cases h : plY t s <;> simp [h] at this ⊢ <;> omega) ?_; refine .m ?_; refine .split (n := 162) rfl (fun c162 => ?_) (fun c162 => ?_)
       ·refine .hf c162 ?_; refine .hf c162 ?_; refine .hf c162 ?_; refine .gT rfl rfl rfl rfl (by have := hE.ok be0; cases h : plY t s <;> simp [h] at this ⊢ <;> omega) ?_; refine .x (OpSem.pickT rfl rfl c162 rfl) ?_; refine .x (OpSem.pickT rfl rfl (by have := hE.ok be0; cases h : plY t s <;> simp [h] at this ⊢ <;> omega) rfl) ?_; refine .a ?_; exact .sq <| .t <| .ret rfl (.tmp rfl <| .nil) rfl (Le.bo (by first | rfl | (simp; omega)))
       ·have hds := hE.ds be0 (by simpa using c162)
        rw [← smL2_e] at hds
        refine .ht c162 ?_; refine .m ?_; refine .ht c162 ?_; refine .m ?_; refine .ht c162 ?_; refine .x (.b bleq) ?_; refine .gT rfl rfl rfl rfl (by have := hE.ok be0; cases h : plY t s <;> simp [h] at this ⊢ <;> omega) ?_; refine .x (OpSem.pickF rfl rfl c162 rfl) ?_; refine .x (OpSem.pickT rfl rfl (by have := hE.ok be0; cases h : plY t s <;> simp [h] at this ⊢ <;> omega) rfl) ?_; refine .a ?_; exact .sq <| .t <| .ret rfl (.tmp rfl <| .nil) rfl (Le.bo (by first | rfl | (simp; omega)))
end Go.Proofs.YthjmgcopfipabaaGreat
end

section
namespace Go.Eng
open Go Go.RowKit
def CellsD (W : World) (cs : List Value) (ds : List D) : Prop := cs.length = ds.length ∧ ∀ (i : Nat) (x : Value) (d : D), cs[i]? = some x → ds[i]? = some d → RepD zO W x d
theorem CellsD.app {W : World} {a b : List Value} {c d : List D} (h : CellsD W a c) (k : CellsD W b d) : CellsD W (a ++ b) (c ++ d) := by
 refine ⟨by simp [h.1, k.1], fun i x y hx hy => ?_⟩
 by_cases hi : i < a.length
 ·rw [List.getElem?_append_left hi] at hx
  rw [List.getElem?_append_left (by rw [← h.1]; exact hi)] at hy
  exact h.2 i x y hx hy
 ·rw [List.getElem?_append_right (by omega)] at hx
  rw [List.getElem?_append_right (by rw [← h.1]; omega), ← h.1] at hy
  exact k.2 _ x y hx hy
abbrev in64 (n : Int) : Prop := -9223372036854775808 ≤ n ∧ n ≤ 9223372036854775807
def Dec (P : Program) (t : TypeId) {β : Type} (k : Nat) (f : β → List D) (R : β → Prop) : Prop :=
 P.cellsOf t = k ∧ (∀ b, (f b).length = k) ∧
  ∀ (H : Type) (enc : TypeId × Value → H) (W : World) (fuel : Nat) (cs : List Value) (x : DataW H × List MemPlace), DataW.trod enc P W 0 (fun _ => true) true fuel t cs = some x → ∃ b, R b ∧ CellsD W cs (f b)
theorem Dec.map {P : Program} {t : TypeId} {β γ : Type} {k : Nat} {f : β → List D} {f' : γ → List D} {R : β → Prop} {R' : γ → Prop} (h : Dec P t k f R) (g : β → γ) (g' : γ → β) (hg : ∀ b, f' (g b) = f b) (hg' : ∀ c, f' c = f (g' c)) (hR : ∀ b, R b → R' (g b)) : Dec P t k f' R' :=
 ⟨h.1, fun c => by rw [hg', h.2.1], fun H enc W fuel cs x hx => let ⟨b, hr, hb⟩ := h.2.2 H enc W fuel cs x hx; ⟨g b, hR b hr, by rw [hg]; exact hb⟩⟩
theorem Dec.int {P : Program} {t : TypeId} (ht : P.underlying t = some (.int .i64)) (hc : P.cellsOf t = 1) : Dec P t 1 (fun n : Int => [D.v (.int .i64 n)]) in64 :=
 ⟨hc, fun _ => rfl, fun H enc W fuel cs x hx => by
  obtain ⟨n, rfl, _, hw⟩ := DataW.trod_int ht hx
  refine ⟨n, ?_, rfl, fun i x d hx hd => ?_⟩
  ·simp only [Lit.wf, Bool.and_eq_true, decide_eq_true_eq] at hw
   have h1 := hw.1
   have h2 := hw.2
   have e1 : IntKind.i64.min = -9223372036854775808 := by decide
   have e2 : IntKind.i64.max = 9223372036854775807 := by decide
   unfold in64
   omega
  ·cases i with
   | zero => simp at hx hd; subst hx; subst hd; exact .v _
   | succ i => simp at hx⟩
theorem choose_list {β : Type} {p : Nat → β → Prop} : ∀ (n : Nat), (∀ i, i < n → ∃ b, p i b) → ∃ l : List β, l.length = n ∧ ∀ i b, l[i]? = some b → p i b
 | 0, _ => ⟨[], rfl, fun i b h => by simp at h⟩
 | n + 1, h => by
  obtain ⟨l, h1, h2⟩ := choose_list n fun i hi => h i (by omega)
  obtain ⟨b, hb⟩ := h n (by omega)
  refine ⟨l ++ [b], by simp [h1], fun i c hc => ?_⟩
  by_cases hi : i < n
  ·rw [List.getElem?_append_left (by omega)] at hc; exact h2 i c hc
  ·rw [List.getElem?_append_right (by omega)] at hc
   cases hz : i - l.length with
   | zero =>
    rw [hz] at hc; simp at hc; subst hc
    have : i = n := by omega
    rw [this]; exact hb
   | succ j => rw [hz] at hc; simp at hc
theorem Dec.slice {P : Program} {t e : TypeId} {β : Type} {k : Nat} {f : β → List D} {R : β → Prop} (ht : P.underlying t = some (.slice e)) (hc : P.cellsOf t = 1) (he : Dec P e k f R) (hk0 : 0 < k) : Dec P t 1 (fun l : List β => [D.s k (l.map f)]) (fun l => ∀ b, b ∈ l → R b) := by
 refine ⟨hc, fun _ => rfl, fun H enc W fuel cs x hx => ?_⟩
 have one : ∀ (v : Value) (d : D), RepD zO W v d → CellsD W [v] [d] := fun v d h => ⟨rfl, fun i x d' hx hd => by
  cases i with
  | zero => simp at hx hd; subst hx; subst hd; exact h
  | succ i => simp at hx⟩
 rcases Go.Deep.open_slice ht hx with ⟨rfl, _⟩ | ⟨a, len, cap, m, n, Dx, Pl, rfl, _, hl, hm, hmm, _, hel⟩
 ·exact ⟨[], fun b hb => by simp at hb, one _ _ (.e none 0 k (by simp [maxLen]))⟩
 ·have hmc : len ≤ m := by rw [hmm]; split <;> omega
  obtain ⟨l, hll, hlp⟩ := choose_list (β := β) (p := fun i b => R b ∧ ∃ cs', W.cells? 0 (a.add (i * P.cellsOf e)) (P.cellsOf e) = some cs' ∧ CellsD W cs' (f b)) len (fun i hi => by
   obtain ⟨cs', h1, h2⟩ := hel i (by omega)
   obtain ⟨b, hr, hb⟩ := he.2.2 H enc W n cs' _ h2
   exact ⟨b, hr, cs', h1, hb⟩)
  refine ⟨l, fun b hb => by obtain ⟨i, hi⟩ := List.getElem?_of_mem hb; exact (hlp i b hi).1, one _ _ ?_⟩
  have hlp := fun i b h => (hlp i b h).2
  cases l with
  | nil =>
   simp at hll
   subst hll
   exact .e _ cap k hm
  | cons b0 l0 =>
   generalize hL : b0 :: l0 = l at hll hlp
   obtain ⟨ab, ao, asp⟩ := a
   have hsp : asp = none := by
    obtain ⟨cs', h1, h2⟩ := hlp 0 b0 (by rw [← hL]; rfl)
    obtain ⟨_, g1, g2⟩ := World.cells?_some h1
    have hj : 0 < cs'.length := by rw [g1, he.1]; exact hk0
    have := g2 0 (by rw [he.1]; exact hk0)
    rw [List.getElem?_eq_getElem hj, Nat.zero_mul] at this
    exact World.cell?_spot (by simpa [Addr.add] using this)
   subst hsp
   have hadd : ∀ p q : Nat, ((⟨ab, ao, none⟩ : Addr).add p).add q = ⟨ab, ao + (p + q), none⟩ := by
    intro p q
    unfold Addr.add
    split <;> split <;> simp <;> omega
   have hcell : ∀ (i : Nat) (b : β), l[i]? = some b → ∀ (j : Nat) (d : D), (f b)[j]? = some d → ∃ x, W.cell? ⟨ab, ao + (i * k + j), none⟩ = some x ∧ RepD zO W x d := by
    intro i b hb j d hd
    obtain ⟨cs', h1, h2⟩ := hlp i b hb
    obtain ⟨_, g1, g2⟩ := World.cells?_some h1
    have hj : j < P.cellsOf e := by rw [he.1, ← he.2.1 b]; exact (List.getElem?_eq_some_iff.1 hd).1
    have hj' : j < cs'.length := by omega
    have := g2 j hj
    rw [List.getElem?_eq_getElem hj', hadd, he.1] at this
    exact ⟨cs'[j], this, h2.2 j _ d (List.getElem?_eq_getElem hj') hd⟩
   have hrow : ∀ (i : Nat) (r : List D), (l.map f)[i]? = some r → ∃ b, l[i]? = some b ∧ r = f b := by
    intro i r hr
    simp only [List.getElem?_map, Option.map_eq_some_iff] at hr
    obtain ⟨b, h1, h2⟩ := hr
    exact ⟨b, h1, h2.symm⟩
   have hlen : len = (l.map f).length := by simp [hll]
   rw [hlen]
   refine .s ab ao cap k (l.map f) (fun q => (W.cell? ⟨ab, ao + q, none⟩).getD undef) (by omega) hm (fun r hr => ?_) (fun _ _ _ _ _ _ => rfl) (fun i r j d hi hj => ?_) (fun i r j d hi hj => ?_)
   ·obtain ⟨b, _, rfl⟩ := List.mem_map.1 hr; exact he.2.1 b
   ·obtain ⟨b, hb, rfl⟩ := hrow i r hi
    obtain ⟨x, hx, _⟩ := hcell i b hb j d hj
    rw [hx]; rfl
   ·obtain ⟨b, hb, rfl⟩ := hrow i r hi
    obtain ⟨x, hx, hr⟩ := hcell i b hb j d hj
    simp only [hx, Option.getD_some]; exact hr
theorem drop_take_app {α : Type} (l : List α) (a b : Nat) : (l.drop 0).take (a + b) = (l.drop 0).take a ++ (l.drop a).take b := by
 simp [List.take_add]
theorem Dec.struct4 {P : Program} {t : TypeId} {f0 f1 f2 f3 : Field} {β0 β1 β2 β3 : Type} {k0 k1 k2 k3 : Nat} {e0 : β0 → List D} {e1 : β1 → List D} {e2 : β2 → List D} {e3 : β3 → List D} {R0 : β0 → Prop} {R1 : β1 → Prop} {R2 : β2 → Prop} {R3 : β3 → Prop} (ht : P.underlying t = some (.struct #[f0, f1, f2, f3])) (hc : P.cellsOf t = k0 + k1 + k2 + k3)
  (o0 : f0.offset = 0) (o1 : f1.offset = k0) (o2 : f2.offset = k0 + k1) (o3 : f3.offset = k0 + k1 + k2) (h0 : Dec P f0.type k0 e0 R0) (h1 : Dec P f1.type k1 e1 R1) (h2 : Dec P f2.type k2 e2 R2) (h3 : Dec P f3.type k3 e3 R3) :
  Dec P t (k0 + k1 + k2 + k3) (fun b : β0 × β1 × β2 × β3 => e0 b.1 ++ e1 b.2.1 ++ e2 b.2.2.1 ++ e3 b.2.2.2) (fun b => R0 b.1 ∧ R1 b.2.1 ∧ R2 b.2.2.1 ∧ R3 b.2.2.2) := by
 refine ⟨hc, fun b => by simp [h0.2.1, h1.2.1, h2.2.1, h3.2.1]; omega, fun H enc W fuel cs x hx => ?_⟩
 obtain ⟨xs, n, _, _, hl, hn, hf⟩ := DataW.trod_struct ht hx
 have g0 := hf 0 f0 rfl
 have g1 := hf 1 f1 rfl
 have g2 := hf 2 f2 rfl
 have g3 := hf 3 f3 rfl
 rw [o0, h0.1, List.getElem?_eq_getElem (by rw [hn]; simp)] at g0
 rw [o1, h1.1, List.getElem?_eq_getElem (by rw [hn]; simp)] at g1
 rw [o2, h2.1, List.getElem?_eq_getElem (by rw [hn]; simp)] at g2
 rw [o3, h3.1, List.getElem?_eq_getElem (by rw [hn]; simp)] at g3
 obtain ⟨b0, r0, c0⟩ := h0.2.2 H enc W n _ _ g0
 obtain ⟨b1, r1, c1⟩ := h1.2.2 H enc W n _ _ g1
 obtain ⟨b2, r2, c2⟩ := h2.2.2 H enc W n _ _ g2
 obtain ⟨b3, r3, c3⟩ := h3.2.2 H enc W n _ _ g3
 refine ⟨(b0, b1, b2, b3), ⟨r0, r1, r2, r3⟩, ?_⟩
 have := ((c0.app c1).app c2).app c3
 rwa [← drop_take_app, ← drop_take_app, ← drop_take_app, List.drop_zero, List.take_of_length_le (by omega)] at this
theorem Dec.arg {P : Program} {t : TypeId} {β : Type} {f : β → D} {R : β → Prop} (h : Dec P t 1 (fun b => [f b]) R) {H : Type} {enc : TypeId × Value → H} {W : World} {v : Value} {d : DataW H} {ps : List MemPlace} (hv : v.cells.toList = [v]) (hx : DataW.Trod enc P W 0 (fun _ => true) true t v d ps) : ∃ b, R b ∧ RepS zO zH W v (.d (f b)) := by
 obtain ⟨fuel, hf⟩ := hx
 obtain ⟨b, hr, hb⟩ := h.2.2 H enc W fuel _ _ hf
 rw [hv] at hb
 exact ⟨b, hr, .d _ _ (hb.2 0 v _ rfl rfl)⟩
theorem Dec.argG {P : Program} {t : TypeId} {β : Type} {k : Nat} {f : β → List D} {R : β → Prop} (h : Dec P t k f R) (h1 : ∀ b, (f b).all D.one = true) {H : Type} {enc : TypeId × Value → H} {W : World} {cs : Array Value} {d : DataW H} {ps : List MemPlace} (hx : DataW.Trod enc P W 0 (fun _ => true) true t (.agg cs) d ps) :
  ∃ b, R b ∧ RepS zO zH W (.agg cs) (.g ((f b).map .d)) := by
 obtain ⟨fuel, hf⟩ := hx
 obtain ⟨b, hr, hb⟩ := h.2.2 H enc W fuel _ _ hf
 simp only [Value.cells] at hb
 refine ⟨b, hr, ?_⟩
 have := RepS.g (O := zO) (H := zH) (w := W) cs.toList ((f b).map .d) (by simp [hb.1]) (fun x hx => ?_) (fun i x s hx hs => ?_)
 ·simpa using this
 ·obtain ⟨i, hi⟩ := List.getElem?_of_mem hx
  have hlt : i < (f b).length := by rw [← hb.1]; exact (List.getElem?_eq_some_iff.1 hi).1
  exact (hb.2 i x _ hi (List.getElem?_eq_getElem hlt)).one' (List.all_eq_true.1 (h1 b) _ (List.getElem_mem hlt))
 ·simp only [List.getElem?_map, Option.map_eq_some_iff] at hs
  obtain ⟨y, hy, rfl⟩ := hs
  exact .d _ _ (hb.2 i x y hx hy)
theorem reps_nil {O : Nat → Nat} {H : Nat → Value} {w : World} : ∀ (i : Nat) (x : Value) (s : S), ([] : List Value)[i]? = some x → ([] : List S)[i]? = some s → RepS O H w x s := fun i x s h => by simp at h
theorem reps_cons {O : Nat → Nat} {H : Nat → Value} {w : World} {v : Value} {t : S} {vs : List Value} {ts : List S} (h : RepS O H w v t) (k : ∀ (i : Nat) (x : Value) (s : S), vs[i]? = some x → ts[i]? = some s → RepS O H w x s) :
  ∀ (i : Nat) (x : Value) (s : S), (v :: vs)[i]? = some x → (t :: ts)[i]? = some s → RepS O H w x s := fun i x s hx hs => by
 cases i with
 | zero => simp at hx hs; subst hx; subst hs; exact h
 | succ i => exact k i x s (by simpa using hx) (by simpa using hs)
theorem RepS.isB {O : Nat → Nat} {H : Nat → Value} {w : World} {x : Value} {b : Bool} (h : RepS O H w x (Bo b)) : x = .bool b := by
 cases h with
 | d _ _ q => cases q with
  | v _ => rfl
end Go.Eng
end
