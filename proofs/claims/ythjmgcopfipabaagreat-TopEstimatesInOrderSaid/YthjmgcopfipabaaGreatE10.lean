/- Part 10. -/
import Derived.Test.YthjmgcopfipabaaGreatE9
import Derived.Shelf.SlSortCmp.Whole1
import Derived.Deep.QuietTactic
import Derived.Shelf.Lay
import Derived.Ground.SlsfProg
import Derived.WalkKit
import Derived.Deep.Cut
import Derived.Deep.Draws
import Derived.Sort.Grow
set_option linter.unusedSimpArgs false
set_option linter.unnecessarySimpa false
set_option linter.unusedVariables false
set_option linter.unusedSectionVars false
section
namespace Go.Eng
theorem nth_appL {α : Type} [Inhabited α] {l m : List α} {i : Nat} (h : i < l.length) : nth (l ++ m) (i : Int) = nth l i := by rw [nth_eq (by simp; omega), nth_eq h, List.getElem_append_left h]
def wdT (s : List Int) : Nat → Nat
 | 0 => 0
 | k + 1 => wdT s k ||| 2 ^ (nth s k).toNat
def wdF (s : List Int) : Nat := wdT s s.length
abbrev wnot (a b : Nat) : Nat := a &&& (2 ^ 32 - 1 - b)
abbrev apW (t : Tsk) (w i : Nat) : Prop := wnot (wdF (nth t.ops i).pre) w = 0
abbrev nxW (t : Tsk) (w i : Nat) : Nat := w ||| wdF (nth t.ops i).add
def biW (t : Tsk) (x : List Nat) (j : Nat) : Nat → List Nat
 | 0 => x
 | i + 1 => if apW t (nth (biW t x j i) j) i ∧ nxW t (nth (biW t x j i) j) i ∉ biW t x j i then biW t x j i ++ [nxW t (nth (biW t x j i) j) i] else biW t x j i
def boW (t : Tsk) (s : List Int) : Nat → List Nat
 | 0 => [wdF s]
 | j + 1 => biW t (boW t s j) j t.ops.length
def BeOk (t : Tsk) (s : List Int) (J : Nat) : Prop := J = (boW t s J).length ∧ ∀ j, j < J → j < (boW t s j).length ∧ (boW t s (j + 1)).length ≤ 2000
theorem wdT_bit {s : List Int} {p : Nat} : ∀ {k : Nat}, (wdT s k).testBit p = decide (∃ i, i < k ∧ (nth s i).toNat = p)
 | 0 => by simp [wdT]
 | k + 1 => by
  simp only [wdT]
  rw [Nat.testBit_or, wdT_bit (k := k), Nat.testBit_two_pow, Bool.eq_iff_iff]
  simp only [Bool.or_eq_true, decide_eq_true_eq]
  constructor
  ·rintro (⟨i, h1, h2⟩ | h)
   ·exact ⟨i, by omega, h2⟩
   ·exact ⟨k, by omega, h⟩
  ·rintro ⟨i, h1, h2⟩
   by_cases h : i = k
   ·subst h; exact .inr h2
   ·exact .inl ⟨i, by omega, h2⟩
theorem wdF_bit {n : Int} {s : List Int} (hs : ∀ p, p ∈ s → 0 ≤ p ∧ p < n) {p : Nat} : (wdF s).testBit p = decide ((p : Int) ∈ s) := by
 unfold wdF
 rw [wdT_bit, Bool.eq_iff_iff]
 simp only [decide_eq_true_eq]
 constructor
 ·rintro ⟨i, hi, h⟩
  have hm : nth s i ∈ s := nth_mem (by omega) (by omega)
  have := hs _ hm
  rw [← h, Int.toNat_of_nonneg this.1]; exact hm
 ·intro h
  obtain ⟨i, hi, he⟩ := List.getElem_of_mem h
  exact ⟨i, hi, by rw [nth_eq hi, he]; simp⟩
theorem wdT_lt {n : Nat} {s : List Int} (hs : ∀ p, p ∈ s → 0 ≤ p ∧ p < n) : ∀ {k : Nat}, k ≤ s.length → wdT s k < 2 ^ n
 | 0, _ => Nat.pow_pos (by omega)
 | k + 1, hk => by
  have ih := wdT_lt hs (k := k) (by omega)
  have := hs _ (nth_mem (l := s) (n := (k : Int)) (by omega) (by omega))
  exact Nat.or_lt_two_pow ih (Nat.pow_lt_pow_right (by omega) (by omega))
theorem wnot_0 {a b : Nat} (hb : b < 2 ^ 32) (ha : a < 2 ^ 32) : wnot a b = 0 ↔ ∀ p, a.testBit p = true → b.testBit p = true := by
 have hn : ∀ p, (2 ^ 32 - 1 - b).testBit p = (decide (p < 32) && !b.testBit p) := fun p => by
  have e : 2 ^ 32 - 1 - b = 2 ^ 32 - (b + 1) := by omega
  rw [e]; exact Nat.testBit_two_pow_sub_succ hb p
 constructor
 ·intro h p hp
  have h1 : (wnot a b).testBit p = false := by rw [h]; simp
  rw [Nat.testBit_and, hp, hn, Bool.true_and] at h1
  by_cases h32 : p < 32
  ·rw [decide_eq_true h32, Bool.true_and] at h1
   cases hb2 : b.testBit p with
   | true => rfl
   | false => rw [hb2] at h1; cases h1
  ·have : a.testBit p = false := Nat.testBit_lt_two_pow (Nat.lt_of_lt_of_le ha (Nat.pow_le_pow_right (by omega) (by omega)))
   rw [this] at hp; cases hp
 ·intro h
  refine Nat.eq_of_testBit_eq fun p => ?_
  rw [Nat.testBit_and, hn]
  cases hp : a.testBit p with
  | false => simp
  | true => rw [h p hp]; simp
def c8 (x : Nat) : Nat := (List.range 8).countP fun i => x.testBit i
def ocW (w : Nat) : Nat := c8 (w / 2 ^ 24) + c8 (w / 2 ^ 16 % 256) + c8 (w / 2 ^ 8 % 256) + c8 (w % 256)
theorem countP_mono {l : List Nat} {p q : Nat → Bool} (h : ∀ x, x ∈ l → p x = true → q x = true) : l.countP p ≤ l.countP q ∧ ((∃ x, x ∈ l ∧ q x = true ∧ p x = false) → l.countP p < l.countP q) := by
 induction l with
 | nil => simp
 | cons a l ih =>
  obtain ⟨h1, h2⟩ := ih fun x hx => h x (by simp [hx])
  simp only [List.countP_cons]
  have ha := h a (by simp)
  constructor
  ·cases hp : p a with
   | true => rw [ha hp]; simp; exact h1
   | false => simp; omega
  ·rintro ⟨x, hx, hq, hp⟩
   rcases List.mem_cons.1 hx with rfl | hx
   ·rw [hq, hp]; simp; omega
   ·have := h2 ⟨x, hx, hq, hp⟩
    cases hpa : p a with
    | true => rw [ha hpa]; simp; omega
    | false => simp; omega
theorem c8_mono {a b : Nat} (h : ∀ p, p < 8 → a.testBit p = true → b.testBit p = true) : c8 a ≤ c8 b ∧ ((∃ p, p < 8 ∧ b.testBit p = true ∧ a.testBit p = false) → c8 a < c8 b) := by
 have := countP_mono (l := List.range 8) (p := fun i => a.testBit i) (q := fun i => b.testBit i) fun x hx => h x (by simpa using hx)
 exact ⟨this.1, fun ⟨p, hp, h1, h2⟩ => this.2 ⟨p, by simpa using hp, h1, h2⟩⟩
theorem byte_bit {w k p : Nat} (hp : p < 8) : (w / 2 ^ k % 256).testBit p = w.testBit (k + p) := by
 have : (256 : Nat) = 2 ^ 8 := rfl
 rw [this, Nat.testBit_mod_two_pow, Nat.testBit_div_two_pow, decide_eq_true hp, Bool.true_and, Nat.add_comm]
theorem ocW_lt {a b : Nat} (ha : a < 2 ^ 32) (hb : b < 2 ^ 32) (h : ∀ p, a.testBit p = true → b.testBit p = true) (hne : a ≠ b) : ocW a < ocW b := by
 obtain ⟨p, hp1, hp2⟩ : ∃ p, b.testBit p = true ∧ a.testBit p = false := Classical.byContradiction fun hn => hne (Nat.eq_of_testBit_eq fun p => by
  cases hp : a.testBit p with
  | true => rw [h p hp]
  | false =>
   cases hq : b.testBit p with
   | false => rfl
   | true => exact absurd ⟨p, hq, hp⟩ hn)
 have hp32 : p < 32 := Classical.byContradiction fun hn => by
  have : b.testBit p = false := Nat.testBit_lt_two_pow (Nat.lt_of_lt_of_le hb (Nat.pow_le_pow_right (by omega) (by omega)))
  rw [this] at hp1; cases hp1
 have e24 : ∀ w, w < 2 ^ 32 → w / 2 ^ 24 = w / 2 ^ 24 % 256 := fun w hw => by omega
 have e0 : ∀ w, w % 256 = w / 2 ^ 0 % 256 := fun w => by simp
 unfold ocW
 rw [e24 a ha, e24 b hb, e0 a, e0 b]
 have m : ∀ k, c8 (a / 2 ^ k % 256) ≤ c8 (b / 2 ^ k % 256) ∧ (k ≤ p → p < k + 8 → c8 (a / 2 ^ k % 256) < c8 (b / 2 ^ k % 256)) := fun k => by
  have := c8_mono (a := a / 2 ^ k % 256) (b := b / 2 ^ k % 256) fun q hq => by rw [byte_bit hq, byte_bit hq]; exact h _
  refine ⟨this.1, fun h1 h2 => this.2 ⟨p - k, by omega, ?_, ?_⟩⟩
  ·rw [byte_bit (by omega), show k + (p - k) = p by omega]; exact hp1
  ·rw [byte_bit (by omega), show k + (p - k) = p by omega]; exact hp2
 have m0 := m 0
 have m8 := m 8
 have m16 := m 16
 have m24 := m 24
 rcases (by omega : p < 8 ∨ (8 ≤ p ∧ p < 16) ∨ (16 ≤ p ∧ p < 24) ∨ (24 ≤ p ∧ p < 32)) with q | q | q | q
 ·have := m0.2 (by omega) (by omega); omega
 ·have := m8.2 (by omega) (by omega); omega
 ·have := m16.2 (by omega) (by omega); omega
 ·have := m24.2 (by omega) (by omega); omega
def lookU : List (Nat × Int) → Nat → Option Int
 | [], _ => none
 | p :: l, k => if k = p.1 then some p.2 else lookU l k
def updU : List (Nat × Int) → Nat → Int → List (Nat × Int)
 | [], k, v => [(k, v)]
 | p :: l, k, v => if k = p.1 then (k, v) :: l else p :: updU l k v
abbrev getU (l : List (Nat × Int)) (k : Nat) : Int := (lookU l k).getD 0
theorem lookU_upd {l : List (Nat × Int)} {k k' : Nat} {v : Int} : lookU (updU l k v) k' = if k' = k then some v else lookU l k' := by
 induction l with
 | nil => simp [updU, lookU]
 | cons p l ih =>
  simp only [updU]
  by_cases h : k = p.1
  ·rw [if_pos h]
   simp only [lookU]
   by_cases h2 : k' = k
   ·simp [h2]
   ·rw [if_neg h2, if_neg h2, if_neg (fun e => h2 (e.trans h.symm))]
  ·rw [if_neg h]
   simp only [lookU]
   by_cases h2 : k' = p.1
   ·rw [if_pos h2, if_pos h2, if_neg (fun e => h (e.symm.trans h2))]
   ·rw [if_neg h2, if_neg h2, ih]
def mp0 (w0 : Nat) (x : List Nat) : List (Nat × Int) := x.map fun w => (w, if w = w0 then 0 else 1000000000)
theorem lookU_mp0 {w0 : Nat} {x : List Nat} {k : Nat} : lookU (mp0 w0 x) k = if k ∈ x then some (if k = w0 then 0 else 1000000000) else none := by
 induction x with
 | nil => simp [mp0, lookU]
 | cons a x ih =>
  have e : mp0 w0 (a :: x) = (a, if a = w0 then 0 else 1000000000) :: mp0 w0 x := rfl
  rw [e]
  simp only [lookU]
  by_cases h : k = a
  ·subst h; simp
  ·rw [if_neg h, ih]; simp [h]
theorem updU_new {l : List (Nat × Int)} {k : Nat} {v : Int} (h : lookU l k = none) : updU l k v = l ++ [(k, v)] := by
 induction l with
 | nil => rfl
 | cons p l ih =>
  simp only [lookU] at h
  split at h
  ·cases h
  ·rename_i hk
   simp only [updU]; rw [if_neg hk, ih h]; rfl
structure BoP (t : Tsk) (s : List Int) (x : List Nat) : Prop where
 w : wdF s ∈ x
 lt : ∀ w, w ∈ x → w < 2 ^ 24
 r : ∀ w, w ∈ x → ∃ l : List Nat, (∀ i, i ∈ l → i < t.ops.length) ∧ ∀ p : Nat, w.testBit p = true → rxF t (· ∈ s) l p
section
variable {t : Tsk} {s : List Int} {x : List Nat} {w i j : Nat}
theorem wd_lt (hV : TskV t) {f : List Int} (hf : ∀ p, p ∈ f → 0 ≤ p ∧ p < t.facts) : wdF f < 2 ^ 24 := by
 have h := hV.facts
 exact wdT_lt (n := 24) (fun p hp => by have := hf p hp; omega) (Nat.le_refl _)
theorem lt32 (h : w < 2 ^ 24) : w < 2 ^ 32 := by omega
theorem ap_iff (hV : TskV t) (hi : i < t.ops.length) (hw : w < 2 ^ 24) : apW t w i ↔ ∀ q, q ∈ (nth t.ops i).pre → w.testBit q.toNat = true := by
 have hp : ∀ p, p ∈ (nth t.ops i).pre → 0 ≤ p ∧ p < t.facts := fun p hp => setP_mem (hV.op i hi).1.1 hp
 rw [show apW t w i ↔ _ from wnot_0 (lt32 hw) (lt32 (wd_lt hV hp))]
 constructor
 ·intro h q hq
  have := hp q hq
  exact h q.toNat (by rw [wdF_bit hp, decide_eq_true_eq, Int.toNat_of_nonneg this.1]; exact hq)
 ·intro h p hpb
  rw [wdF_bit hp, decide_eq_true_eq] at hpb
  have := h p hpb
  simpa using this
theorem nx_bit (hV : TskV t) (hi : i < t.ops.length) {p : Nat} : (nxW t w i).testBit p = (w.testBit p || decide ((p : Int) ∈ (nth t.ops i).add)) := by
 rw [Nat.testBit_or, wdF_bit (n := t.facts) fun p hp => setP_mem (hV.op i hi).1.2.1 hp]
theorem nx_lt (hV : TskV t) (hi : i < t.ops.length) (hw : w < 2 ^ 24) : nxW t w i < 2 ^ 24 := Nat.or_lt_two_pow hw (wd_lt hV fun p hp => setP_mem (hV.op i hi).1.2.1 hp)
theorem biW_p (hV : TskV t) (hx : BoP t s x) (hj : j < x.length) : ∀ {i : Nat}, i ≤ t.ops.length → BoP t s (biW t x j i) ∧ x <+: biW t x j i ∧ nth (biW t x j i) j = nth x j ∧ (biW t x j i).length ≤ x.length + i ∧ ∀ m : Nat, m < i → apW t (nth x j) m → nxW t (nth x j) m ∈ biW t x j i
 | 0, _ => ⟨hx, List.prefix_refl _, rfl, Nat.le_refl _, fun m hm => by omega⟩
 | i + 1, hi => by
  obtain ⟨h1, h2, h3, h4, h5⟩ := biW_p hV hx hj (i := i) (by omega)
  simp only [biW]
  rw [h3]
  have hm : nth x j ∈ x := nth_mem (by omega) (by omega)
  split
  ·rename_i hc
   refine ⟨⟨by simp [h1.w], fun w hw => ?_, fun w hw => ?_⟩, h2.trans (List.prefix_append _ _), ?_, by simp; omega, fun m hm2 ha => ?_⟩
   ·rcases List.mem_append.1 hw with hw | hw
    ·exact h1.lt w hw
    ·rw [List.mem_singleton] at hw; rw [hw]; exact nx_lt hV (by omega) (hx.lt _ hm)
   ·rcases List.mem_append.1 hw with hw | hw
    ·exact h1.r w hw
    ·rw [List.mem_singleton] at hw
     obtain ⟨l, a1, a2⟩ := hx.r _ hm
     refine ⟨l ++ [i], fun m hm => ?_, fun p hp => ?_⟩
     ·rcases List.mem_append.1 hm with hm | hm
      ·exact a1 m hm
      ·rw [List.mem_singleton] at hm; omega
     ·rw [hw, nx_bit hV (by omega), Bool.or_eq_true, decide_eq_true_eq] at hp
      rw [rxF_snoc]
      rcases hp with hp | hp
      ·exact .inl (a2 p hp)
      ·refine .inr ⟨fun q hq => ?_, hp⟩
       have hqr := setP_mem (hV.op i (by omega)).1.1 hq
       have := a2 q.toNat ((ap_iff hV (by omega) (hx.lt _ hm)).1 hc.1 q hq)
       rw [Int.toNat_of_nonneg hqr.1] at this; exact this
   ·rw [nth_appL (by have := h2.length_le; omega)]; exact h3
   ·by_cases hmi : m = i
    ·subst hmi; simp
    ·exact List.mem_append_left _ (h5 m (by omega) ha)
  ·rename_i hc
   refine ⟨h1, h2, h3, by omega, fun m hm2 ha => ?_⟩
   by_cases hmi : m = i
   ·subst hmi; exact Classical.byContradiction fun hn => hc ⟨ha, hn⟩
   ·exact h5 m (by omega) ha
theorem bo0_p (hV : TskV t) (hs : ∀ p, p ∈ s → 0 ≤ p ∧ p < t.facts) : BoP t s (boW t s 0) := by
 refine ⟨by simp [boW], fun w hw => ?_, fun w hw => ?_⟩
 ·simp [boW] at hw; rw [hw]; exact wd_lt hV hs
 ·simp [boW] at hw
  refine ⟨[], by simp, fun p hp => ?_⟩
  rw [hw, wdF_bit hs, decide_eq_true_eq] at hp; exact hp
theorem boW_p (hV : TskV t) (hs : ∀ p, p ∈ s → 0 ≤ p ∧ p < t.facts) : ∀ {j : Nat}, (∀ m, m < j → m < (boW t s m).length) → BoP t s (boW t s j) ∧ (∀ m : Nat, m < j → nth (boW t s j) m ∈ boW t s j ∧ ∀ i : Nat, i < t.ops.length → apW t (nth (boW t s j) m) i → nxW t (nth (boW t s j) m) i ∈ boW t s j) ∧ 1 ≤ (boW t s j).length
 | 0, _ => ⟨bo0_p hV hs, fun m hm => by omega, by simp [boW]⟩
 | j + 1, h => by
  obtain ⟨h1, h2, h3⟩ := boW_p hV hs (j := j) fun m hm => h m (by omega)
  have hj := h j (by omega)
  obtain ⟨g1, g2, g3, g4, g5⟩ := biW_p hV h1 hj (Nat.le_refl _)
  have hat : ∀ m : Nat, m < (boW t s j).length → nth (boW t s (j + 1)) m = nth (boW t s j) m := fun m hm => by
   obtain ⟨y, hy⟩ := g2
   show nth (biW t (boW t s j) j t.ops.length) m = _
   rw [← hy, nth_appL hm]
  refine ⟨g1, fun m hm => ?_, by have := g2.length_le; show 1 ≤ (biW _ _ _ _).length; omega⟩
  have hml : m < (boW t s j).length := by
   by_cases hmj : m = j
   ·omega
   ·have h4 := h2 m (by omega)
    omega
  rw [hat m hml]
  refine ⟨g2.subset (nth_mem (by omega) (by omega)), fun i hi ha => ?_⟩
  by_cases hmj : m = j
  ·subst hmj; exact g5 i hi ha
  ·have := (h2 m (by omega)).2 i hi ha
   exact g2.subset this
end
def b2O (t : Tsk) (w : Nat) (m : List (Nat × Int)) : Nat → List (Nat × Int)
 | 0 => m
 | i + 1 => if apW t w i then updU (b2O t w m i) (nxW t w i) (min (getU (b2O t w m i) (nxW t w i)) (getU (b2O t w m i) w + (nth t.ops i).cost)) else b2O t w m i
def b2T (t : Tsk) (m0 : List (Nat × Int)) (L : List Nat) : Nat → List (Nat × Int) × Int
 | 0 => (m0, 1000000000)
 | k + 1 => (b2O t (nth L k) (b2T t m0 L k).1 t.ops.length, if wnot (wdF t.goal) (nth L k) = 0 then min (b2T t m0 L k).2 (getU (b2T t m0 L k).1 (nth L k)) else (b2T t m0 L k).2)
structure B2P (t : Tsk) (s : List Int) (S : List Nat) (m : List (Nat × Int)) : Prop where
 k : ∀ w, w ∈ S → ∃ v, lookU m w = some v ∧ 0 ≤ v ∧ v ≤ 1000000000 ∧ (v < 1000000000 → ∃ l : List Nat, (∀ i, i ∈ l → i < t.ops.length) ∧ (∀ p : Nat, w.testBit p = true → rxF t (· ∈ s) l p) ∧ csO t l = v)
structure ClW (t : Tsk) (s : List Int) (S : List Nat) : Prop where
 w : wdF s ∈ S
 lt : ∀ w, w ∈ S → w < 2 ^ 24
 c : ∀ w, w ∈ S → ∀ i : Nat, i < t.ops.length → apW t w i → nxW t w i ∈ S
section
variable {t : Tsk} {s : List Int} {S L : List Nat} {m m0 : List (Nat × Int)} {w : Nat}
theorem b2O_p (hV : TskV t) (hC : ClW t s S) (hw : w ∈ S) (hm : B2P t s S m) : ∀ {i : Nat}, i ≤ t.ops.length → B2P t s S (b2O t w m i) ∧ (∀ v, v ∈ S → getU (b2O t w m i) v ≤ getU m v) ∧ getU (b2O t w m i) w = getU m w ∧ ∀ j : Nat, j < i → apW t w j → getU (b2O t w m i) (nxW t w j) ≤ getU m w + (nth t.ops j).cost
 | 0, _ => ⟨hm, fun _ _ => Int.le_refl _, rfl, fun j hj => by omega⟩
 | i + 1, hi => by
  obtain ⟨h1, h2, h3, h4⟩ := b2O_p hV hC hw hm (i := i) (by omega)
  simp only [b2O]
  have hc := (hV.op i (by omega)).2
  split
  ·rename_i ha
   have hn := hC.c w hw i (by omega) ha
   obtain ⟨v1, e1, r1, r2, r3⟩ := h1.k _ hn
   obtain ⟨v2, e2, q1, q2, q3⟩ := h1.k _ hw
   have g1 : getU (b2O t w m i) (nxW t w i) = v1 := by simp [getU, e1]
   have g2 : getU (b2O t w m i) w = v2 := by simp [getU, e2]
   have hat : ∀ u, getU (updU (b2O t w m i) (nxW t w i) (min (getU (b2O t w m i) (nxW t w i)) (getU (b2O t w m i) w + (nth t.ops i).cost))) u = if u = nxW t w i then min v1 (v2 + (nth t.ops i).cost) else getU (b2O t w m i) u := fun u => by
    unfold getU
    rw [lookU_upd]
    by_cases hu : u = nxW t w i
    ·rw [if_pos hu, if_pos hu]; simp [e1, e2]
    ·rw [if_neg hu, if_neg hu]
   refine ⟨⟨fun u hu => ?_⟩, fun u hu => ?_, ?_, fun j hj ha2 => ?_⟩
   ·rw [lookU_upd]
    by_cases he : u = nxW t w i
    ·rw [if_pos he, g1, g2]
     refine ⟨_, rfl, by omega, by omega, fun hlt => ?_⟩
     by_cases hle : v1 ≤ v2 + (nth t.ops i).cost
     ·rw [Int.min_eq_left hle] at hlt ⊢
      rw [he]; exact r3 hlt
     ·rw [Int.min_eq_right (by omega)] at hlt ⊢
      obtain ⟨l, a1, a2, a3⟩ := q3 (by omega)
      refine ⟨l ++ [i], fun x hx => ?_, fun p hp => ?_, by rw [csO_app, a3]; simp [csO]⟩
      ·rcases List.mem_append.1 hx with hx | hx
       ·exact a1 x hx
       ·rw [List.mem_singleton] at hx; omega
      ·rw [he, nx_bit hV (by omega), Bool.or_eq_true, decide_eq_true_eq] at hp
       rw [rxF_snoc]
       rcases hp with hp | hp
       ·exact .inl (a2 p hp)
       ·refine .inr ⟨fun q hq => ?_, hp⟩
        have hqr := setP_mem (hV.op i (by omega)).1.1 hq
        have := a2 q.toNat ((ap_iff hV (by omega) (hC.lt _ hw)).1 ha q hq)
        rw [Int.toNat_of_nonneg hqr.1] at this; exact this
    ·rw [if_neg he]; exact h1.k u hu
   ·rw [hat u]
    by_cases he : u = nxW t w i
    ·rw [if_pos he]
     have := h2 u hu
     rw [he, g1] at this
     rw [he]; omega
    ·rw [if_neg he]; exact h2 u hu
   ·rw [hat w]
    by_cases he : w = nxW t w i
    ·rw [if_pos he]
     have : v1 = v2 := by rw [← g1, ← g2, ← he]
     rw [← h3, g2]; omega
    ·rw [if_neg he]; exact h3
   ·rw [hat]
    by_cases hji : j = i
    ·subst hji; rw [if_pos rfl]; rw [← h3, g2]; omega
    ·have h5 := h4 j (by omega) ha2
     by_cases he : nxW t w j = nxW t w i
     ·rw [if_pos he]; rw [he, g1] at h5; omega
     ·rw [if_neg he]; exact h5
  ·rename_i ha
   refine ⟨h1, h2, h3, fun j hj ha2 => ?_⟩
   by_cases hji : j = i
   ·subst hji; exact absurd ha2 ha
   ·exact h4 j (by omega) ha2
theorem b2T_p (hV : TskV t) (hC : ClW t s S) (hL : ∀ w, w ∈ L → w ∈ S) (hm : B2P t s S m0) : ∀ {k : Nat}, k ≤ L.length → B2P t s S (b2T t m0 L k).1 ∧ 0 ≤ (b2T t m0 L k).2 ∧ (b2T t m0 L k).2 ≤ 1000000000 ∧ ((b2T t m0 L k).2 < 1000000000 → ∃ l, Rx t s t.goal l ∧ csO t l = (b2T t m0 L k).2)
 | 0, _ => ⟨hm, by simp [b2T], by simp [b2T], fun h => by simp [b2T] at h⟩
 | k + 1, hk => by
  obtain ⟨h1, h2, h3, h4⟩ := b2T_p hV hC hL hm (k := k) (by omega)
  have hw := hL _ (nth_mem (l := L) (n := (k : Int)) (by omega) (by omega))
  refine ⟨(b2O_p hV hC hw h1 (Nat.le_refl _)).1, ?_⟩
  obtain ⟨v, e, r1, r2, r3⟩ := h1.k _ hw
  have g : getU (b2T t m0 L k).1 (nth L k) = v := by simp [getU, e]
  show 0 ≤ (if wnot (wdF t.goal) (nth L k) = 0 then min (b2T t m0 L k).2 (getU (b2T t m0 L k).1 (nth L k)) else (b2T t m0 L k).2) ∧ (if wnot (wdF t.goal) (nth L k) = 0 then min (b2T t m0 L k).2 (getU (b2T t m0 L k).1 (nth L k)) else (b2T t m0 L k).2) ≤ _ ∧ ((if wnot (wdF t.goal) (nth L k) = 0 then min (b2T t m0 L k).2 (getU (b2T t m0 L k).1 (nth L k)) else (b2T t m0 L k).2) < _ → ∃ l, _ ∧ csO t l = (if wnot (wdF t.goal) (nth L k) = 0 then min (b2T t m0 L k).2 (getU (b2T t m0 L k).1 (nth L k)) else (b2T t m0 L k).2))
  rw [g]
  split
  ·rename_i hg
   refine ⟨by omega, by omega, fun hlt => ?_⟩
   by_cases hle : (b2T t m0 L k).2 ≤ v
   ·rw [Int.min_eq_left hle] at hlt ⊢; exact h4 hlt
   ·rw [Int.min_eq_right (by omega)] at hlt ⊢
    obtain ⟨l, a1, a2, a3⟩ := r3 hlt
    have hgr : ∀ p, p ∈ t.goal → 0 ≤ p ∧ p < t.facts := fun p hp => setP_mem hV.goal hp
    refine ⟨l, ⟨a1, fun p hp => ?_⟩, a3⟩
    have h5 := (wnot_0 (lt32 (hC.lt _ hw)) (lt32 (wd_lt hV hgr))).1 hg p.toNat (by
     rw [wdF_bit hgr, decide_eq_true_eq, Int.toNat_of_nonneg (hgr p hp).1]; exact hp)
    have := a2 _ h5
    rw [Int.toNat_of_nonneg (hgr p hp).1] at this; exact this
  ·exact ⟨h2, h3, h4⟩
theorem b2T_le (hV : TskV t) (hC : ClW t s S) (hL : ∀ w, w ∈ L → w ∈ S) (hm : B2P t s S m0) {k : Nat} : ∀ {d : Nat}, k + d ≤ L.length → (∀ v, v ∈ S → getU (b2T t m0 L (k + d)).1 v ≤ getU (b2T t m0 L k).1 v) ∧ (b2T t m0 L (k + d)).2 ≤ (b2T t m0 L k).2
 | 0, _ => ⟨fun _ _ => Int.le_refl _, Int.le_refl _⟩
 | d + 1, hd => by
  obtain ⟨h1, h2⟩ := b2T_le hV hC hL hm (k := k) (d := d) (by omega)
  have hw := hL _ (nth_mem (l := L) (n := ((k + d : Nat) : Int)) (by omega) (by omega))
  have hp := (b2T_p hV hC hL hm (k := k + d) (by omega)).1
  refine ⟨fun v hv => Int.le_trans ((b2O_p hV hC hw hp (Nat.le_refl _)).2.1 v hv) (h1 v hv), ?_⟩
  have e : (b2T t m0 L (k + (d + 1))).2 = if wnot (wdF t.goal) (nth L (k + d : Nat)) = 0 then min (b2T t m0 L (k + d)).2 (getU (b2T t m0 L (k + d)).1 (nth L (k + d : Nat))) else (b2T t m0 L (k + d)).2 := rfl
  rw [e]
  split <;> omega
def wxF (t : Tsk) (w : Nat) : List Nat → Nat
 | [] => w
 | i :: l => wxF t (if apW t w i then nxW t w i else w) l
theorem wx_snoc {i : Nat} : ∀ {l : List Nat} {w : Nat}, wxF t w (l ++ [i]) = if apW t (wxF t w l) i then nxW t (wxF t w l) i else wxF t w l
 | [], w => rfl
 | a :: l, w => by simp only [List.cons_append, wxF]; exact wx_snoc (l := l)
theorem snocInd {P : List Nat → Prop} (h0 : P []) (hs : ∀ l i, P l → P (l ++ [i])) (l : List Nat) : P l := by
 have : ∀ n, ∀ l : List Nat, l.length = n → P l := fun n => by
  induction n with
  | zero => intro l hl; rw [List.eq_nil_of_length_eq_zero hl]; exact h0
  | succ n ih =>
   intro l hl
   rcases List.eq_nil_or_concat l with rfl | ⟨m, x, rfl⟩
   ·simp at hl
   ·rw [List.concat_eq_append]
    exact hs m x (ih m (by simp at hl; exact hl))
 exact this _ l rfl
theorem wx_mem (hC : ClW t s S) {l : List Nat} : (∀ i, i ∈ l → i < t.ops.length) → wxF t (wdF s) l ∈ S := by
 refine snocInd (P := fun l => (∀ i, i ∈ l → i < t.ops.length) → wxF t (wdF s) l ∈ S) (fun _ => hC.w) (fun l i ih h => ?_) l
 have h1 := ih fun x hx => h x (by simp [hx])
 rw [wx_snoc]
 split
 ·rename_i ha; exact hC.c _ h1 i (h i (by simp)) ha
 ·exact h1
theorem wx_bit (hV : TskV t) (hs : ∀ p, p ∈ s → 0 ≤ p ∧ p < t.facts) (hC : ClW t s S) {l : List Nat} : (∀ i, i ∈ l → i < t.ops.length) → ∀ p : Nat, rxF t (· ∈ s) l (p : Int) → (wxF t (wdF s) l).testBit p = true := by
 refine snocInd (P := fun l => (∀ i, i ∈ l → i < t.ops.length) → ∀ p : Nat, rxF t (· ∈ s) l (p : Int) → (wxF t (wdF s) l).testBit p = true) (fun _ p hp => ?_) (fun l i ih h p hp => ?_) l
 ·show (wdF s).testBit p = true
  rw [wdF_bit hs]; exact decide_eq_true hp
 ·have h1 := ih fun x hx => h x (by simp [hx])
  have hi := h i (by simp)
  have hm := wx_mem hC (l := l) fun x hx => h x (by simp [hx])
  rw [wx_snoc]
  rw [rxF_snoc] at hp
  rcases hp with hp | ⟨hq, hp⟩
  ·have := h1 p hp
   split
   ·rw [nx_bit hV hi, this]; rfl
   ·exact this
  ·have ha : apW t (wxF t (wdF s) l) i := (ap_iff hV hi (hC.lt _ hm)).2 fun q hq2 => by
    have hqr := setP_mem (hV.op i hi).1.1 hq2
    exact h1 q.toNat (by rw [Int.toNat_of_nonneg hqr.1]; exact hq q hq2)
   rw [if_pos ha, nx_bit hV hi, decide_eq_true hp]; simp
theorem wx_cost (hV : TskV t) (hs : ∀ p, p ∈ s → 0 ≤ p ∧ p < t.facts) (hC : ClW t s S) (hL : ∀ w, w ∈ L ↔ w ∈ S) (hO : ∀ i j : Nat, i < j → j < L.length → ocW (nth L i) ≤ ocW (nth L j)) (hm : B2P t s S m0) (h0 : getU m0 (wdF s) ≤ 0) {l : List Nat} :
  (∀ i, i ∈ l → i < t.ops.length) → ∀ k : Nat, k < L.length → nth L k = wxF t (wdF s) l → getU (b2T t m0 L k).1 (nth L k) ≤ csO t l := by
 have hL1 : ∀ w, w ∈ L → w ∈ S := fun w h => (hL w).1 h
 refine snocInd (P := fun l => (∀ i, i ∈ l → i < t.ops.length) → ∀ k : Nat, k < L.length → nth L k = wxF t (wdF s) l → getU (b2T t m0 L k).1 (nth L k) ≤ csO t l) (fun _ k hk he => ?_) (fun l i ih h k hk he => ?_) l
 ·have h1 := (b2T_le hV hC hL1 hm (k := 0) (d := k) (by omega)).1 (nth L k) (hL1 _ (nth_mem (by omega) (by omega)))
  rw [Nat.zero_add] at h1
  have e : nth L k = wdF s := he
  rw [e] at h1 ⊢
  have : getU (b2T t m0 L 0).1 (wdF s) = getU m0 (wdF s) := rfl
  simp only [csO]; omega
 ·have hl : ∀ x, x ∈ l → x < t.ops.length := fun x hx => h x (by simp [hx])
  have hi := h i (by simp)
  have hc := (hV.op i hi).2.1
  have hmem := wx_mem hC hl
  have e1 : csO t (l ++ [i]) = csO t l + (nth t.ops i).cost := by rw [csO_app]; simp [csO]
  rw [e1]
  rw [wx_snoc] at he
  split at he
  ·rename_i ha
   by_cases hsame : nxW t (wxF t (wdF s) l) i = wxF t (wdF s) l
   ·rw [hsame] at he
    have := ih hl k hk he; omega
   ·obtain ⟨j, hj, hje⟩ := List.getElem_of_mem ((hL _).2 hmem)
    have hje : nth L j = wxF t (wdF s) l := by rw [nth_eq hj]; exact hje
    have hlt : ocW (wxF t (wdF s) l) < ocW (nxW t (wxF t (wdF s) l) i) := ocW_lt (lt32 (hC.lt _ hmem)) (lt32 (nx_lt hV hi (hC.lt _ hmem))) (fun p hp => by rw [nx_bit hV hi, hp]; rfl) (fun e => hsame e.symm)
    have hjk : j < k := Classical.byContradiction fun hn => by
     by_cases hkj : k = j
     ·subst hkj; rw [he] at hje; exact hsame hje
     ·have := hO k j (by omega) hj
      rw [he, hje] at this; omega
    have h1 := ih hl j hj hje
    have hp := (b2T_p hV hC hL1 hm (k := j) (by omega)).1
    have h2 := (b2O_p hV hC (hL1 _ (nth_mem (l := L) (n := (j : Int)) (by omega) (by omega))) hp (Nat.le_refl _)).2.2.2 i hi (by rw [hje]; exact ha)
    rw [hje, ← he] at h2
    have h3 := (b2T_le hV hC hL1 hm (k := j + 1) (d := k - (j + 1)) (by omega)).1 (nth L k) (hL1 _ (nth_mem (by omega) (by omega)))
    rw [show j + 1 + (k - (j + 1)) = k by omega] at h3
    have h4 : getU (b2T t m0 L (j + 1)).1 (nth L k) = getU (b2O t (nth L j) (b2T t m0 L j).1 t.ops.length) (nth L k) := rfl
    rw [h4, hje] at h3
    rw [hje] at h1
    omega
  ·have := ih hl k hk he; omega
theorem b2_spec (hV : TskV t) (hs : ∀ p, p ∈ s → 0 ≤ p ∧ p < t.facts) (hC : ClW t s S) (hL : ∀ w, w ∈ L ↔ w ∈ S) (hO : ∀ i j : Nat, i < j → j < L.length → ocW (nth L i) ≤ ocW (nth L j)) (hm : B2P t s S m0) (h0 : getU m0 (wdF s) ≤ 0) :
  (0 ≤ (b2T t m0 L L.length).2 ∧ (b2T t m0 L L.length).2 ≤ 1000000000) ∧ ((b2T t m0 L L.length).2 < 1000000000 → ∃ l, Rx t s t.goal l ∧ csO t l = (b2T t m0 L L.length).2) ∧ ∀ l, Rx t s t.goal l → (b2T t m0 L L.length).2 ≤ csO t l := by
 have hL1 : ∀ w, w ∈ L → w ∈ S := fun w h => (hL w).1 h
 obtain ⟨h1, h2, h3, h4⟩ := b2T_p hV hC hL1 hm (Nat.le_refl _)
 refine ⟨⟨h2, h3⟩, h4, fun l hl => ?_⟩
 have hmem := wx_mem hC hl.i
 obtain ⟨k, hk, he⟩ := List.getElem_of_mem ((hL _).2 hmem)
 have he : nth L k = wxF t (wdF s) l := by rw [nth_eq hk]; exact he
 have hc := wx_cost hV hs hC hL hO hm h0 hl.i k hk he
 have h5 := (b2T_le hV hC hL1 hm (k := k + 1) (d := L.length - (k + 1)) (by omega)).2
 rw [show k + 1 + (L.length - (k + 1)) = L.length by omega] at h5
 have hgr : ∀ p, p ∈ t.goal → 0 ≤ p ∧ p < t.facts := fun p hp => setP_mem hV.goal hp
 have hg : wnot (wdF t.goal) (nth L k) = 0 := (wnot_0 (lt32 (hC.lt _ (hL1 _ (nth_mem (by omega) (by omega))))) (lt32 (wd_lt hV hgr))).2 fun p hp => by
  rw [wdF_bit hgr, decide_eq_true_eq] at hp
  rw [he]; exact wx_bit hV hs hC hl.i p (hl.g _ hp)
 have h6 : (b2T t m0 L (k + 1)).2 = min (b2T t m0 L k).2 (getU (b2T t m0 L k).1 (nth L k)) := by
  show (if _ then _ else _) = _
  rw [if_pos hg]
 omega
end
end Go.Eng
end

section
namespace Go.Eng
open Go.Shelf Go.Lib Go.Proofs
open Go.RowKit (Below)
open Go.Sort (SWO ahead grow putCells putRow mapBlock onCells Holds PermIn SortedIn)
def cmpZ (x y : Int) : Int := if x < y then -1 else if y < x then 1 else 0
abbrev u32C (x : Nat) : List D := [D.v (.int .u32 (x : Int))]
def oc24 (x : Nat) : Nat := ocW (x % 2 ^ 24)
def cfU (x y : Nat) : Int := cmpZ (oc24 x) (oc24 y)
abbrev encU (x : Nat) : Value := .int .u32 ((x % 2 ^ 24 : Nat) : Int)
theorem ltU (x y : Nat) : ltOf cfU x y = decide (oc24 x < oc24 y) := by
 unfold ltOf cfU cmpZ
 by_cases h : oc24 x < oc24 y
 ·rw [if_pos (by omega)]; simp [h]
 ·rw [if_neg (by omega)]; split <;> simp [h]
theorem ltU_swo : SWO (ltOf cfU) := {
 irrefl := fun x => by rw [ltU]; simp
 trans := fun x y z h1 h2 => by rw [ltU, decide_eq_true_eq] at *; omega
 ntrans := fun x y z h1 h2 => by rw [ltU, decide_eq_false_iff_not] at *; omega }
noncomputable def sortU (l : List Nat) : List Nat := (Go.Sort.pdq (ltOf cfU) l.toArray 0 l.toArray.size (Lib.bitLen l.toArray.size) true true).toList
theorem sortU_perm (l : List Nat) : (sortU l).Perm l ∧ (sortU l).length = l.length ∧ ∀ i j : Nat, i < j → j < l.length → oc24 (nth (sortU l) i) ≤ oc24 (nth (sortU l) j) := by
 obtain ⟨⟨h1, _, h3⟩, h4⟩ := Go.Sort.pdq_sorts (ltOf cfU) ltU_swo l.toArray 0 l.toArray.size (Lib.bitLen l.toArray.size) true true (Nat.zero_le _) (Nat.le_refl _) (Or.inl rfl)
 unfold sortU
 obtain ⟨d', hd'⟩ : ∃ d', Go.Sort.pdq (ltOf cfU) l.toArray 0 l.toArray.size (Lib.bitLen l.toArray.size) true true = d' := ⟨_, rfl⟩
 rw [hd'] at h1 h3 h4 ⊢
 have hl : d'.toList.length = l.length := by rw [Array.length_toList, h1]; simp
 refine ⟨?_, hl, fun i j hij hj => ?_⟩
 ·have e1 : d'.extract 0 l.toArray.size = d' := by rw [← h1]; simp
  have e2 : (l.toArray.extract 0 l.toArray.size).toList = l := by simp
  rw [e1, e2] at h3
  exact h3
 ·have h5 := h4 i j (Nat.zero_le _) hij (by simpa using hj)
  rw [ltU, decide_eq_false_iff_not] at h5
  have e : ∀ k : Nat, k < l.length → nth d'.toList k = d'[k]! := fun k hk => by
   rw [nth_eq (by rw [hl]; exact hk), getElem!_pos d' k (by rw [h1]; simpa using hk)]
   simp
  rw [e i (by omega), e j hj]; omega
theorem sortU_W {P : Program} {ρ : Ren} (L : SlLaysF.n6 P ρ) (T g : Nat) (eg : ∀ args w, (callFunc g args).run P w = .ok (.enter g args) w) (hcmp : ∀ (W : World) (x y : Nat), Calls P g #[encU x, encU y] W fun e w' => e = .returned (.int .i64 (cfU x y)) ∧ ∃ q os', w' = grow (W.drewN q) os')
  (can : ∀ xs w, (callFunc (ρ.f 6) xs).run P w = .ok (.enter (ρ.f 6) xs) w) (l : List Nat) (hl : l.length < 4611686018427387904) (hne : l ≠ []) (h24 : ∀ x, x ∈ l → x < 2 ^ 24) :
  DoesWS P (ρ.f 6) (fun v => [v, .func (.func g) #[] #[]]) (.tuple #[]) 1 T (l.map u32C) ((sortU l).map u32C) := by
 obtain ⟨hp, hsl, _⟩ := sortU_perm l
 refine ⟨can, fun w v hv => ?_⟩
 rcases hv with ⟨rfl, hr⟩ | ⟨b, cap, xs, rfl, _, hb, hlc, hcm, hsz, hw, hc⟩
 ·exact absurd (by simpa using hr) hne
 ·have hcv : ∀ (i : Nat) (x : Nat), l[i]? = some x → xs[i]? = some (encU x) := fun i x hi => by
   obtain ⟨y, hy, he, _⟩ := hc i [D.v (.int .u32 (x : Int))] 0 (.v (.int .u32 (x : Int))) (by simp [hi]) rfl
   have hx := h24 x (List.mem_of_getElem? hi)
   cases he
   have : encU x = .int .u32 (x : Int) := by unfold encU; rw [Nat.mod_eq_of_lt hx]
   rw [this]; simpa using hy
  have hbs := (Array.getElem?_eq_some_iff.1 hb).1
  have hH : Holds encU w b 0 l.toArray := by
   intro j hj
   have hj' : j < l.length := by simpa using hj
   have h2 := hcv j l[j] (List.getElem?_eq_getElem hj')
   refine ⟨?_, by simp [World.frozen?, hb]⟩
   simp only [World.cell?, hb, Nat.zero_add]
   simpa [hj'] using h2
  have hcon := Any.slices_SortFunc_eq L encU (fun _ => rfl) cfU ltU_swo g #[] b 0 cap l.toArray w eg (fun m os dk _ x y => hcmp _ x y) hH hbs (by simpa using hl)
  have e1 : l.toArray.size = (l.map u32C).length := by simp
  have e2 : (.slice (some ⟨b, 0, none⟩) l.toArray.size cap : Value) = .slice (some ⟨b, 0, none⟩) (l.map u32C).length cap := by rw [e1]
  rw [e2] at hcon
  refine hcon.mono ?_
  rintro e w' ⟨rfl, n, os, rfl⟩
  obtain ⟨d', hd'⟩ : ∃ d', Go.Sort.pdq (ltOf cfU) l.toArray 0 l.toArray.size (Lib.bitLen l.toArray.size) true true = d' := ⟨_, rfl⟩
  have hsd : sortU l = d'.toList := by unfold sortU; rw [hd']
  rw [hd']
  rw [hsd] at hp hsl ⊢
  have hds : d'.size = l.length := by rw [← hsl]; simp
  have hat : ∀ b', b' < w.heap.size → (sortWorld encU w b 0 n d' os).heap[b']? = if b = b' then (w.heap[b']?).map (onCells (putCells encU 0 d')) else w.heap[b']? := fun b' hb' => by
   unfold sortWorld grow putRow mapBlock
   show ((w.heap.modify b _) ++ os)[b']? = _
   rw [Array.getElem?_append_left (by simpa using hb'), Array.getElem?_modify]
  have hlc' : l.length ≤ cap := by simpa using hlc
  refine ⟨rfl, ⟨rfl, rfl, rfl, ?_, fun b' hb' hne => ?_⟩, .inr ⟨b, cap, putCells encU 0 d' xs, by simp [hds], Nat.zero_le _, ?_, by simpa [hds] using hlc', hcm, ?_, ?_, ?_⟩⟩
  ·show w.heap.size ≤ (sortWorld encU w b 0 n d' os).heap.size
   unfold sortWorld grow putRow mapBlock
   simp [ahead]
  ·refine (hat b' hb').trans (if_neg fun e => hne (by rw [e]; rfl))
  ·rw [hat b hbs, if_pos rfl, hb]
   rfl
  ·simp [putCells, hsz]
  ·intro r hr
   obtain ⟨x, _, rfl⟩ := List.mem_map.1 hr
   rfl
  ·intro i r j d hi hj
   rw [List.getElem?_map, Option.map_eq_some_iff] at hi
   obtain ⟨x, hx, rfl⟩ := hi
   have hj0 : j = 0 := by have := (List.getElem?_eq_some_iff.1 hj).1; simp at this; omega
   subst hj0
   simp at hj
   subst hj
   refine ⟨.int .u32 (x : Int), ?_, rfl, rfl⟩
   have hil : i < l.length := by have := (List.getElem?_eq_some_iff.1 hx).1; rwa [hsl] at this
   have hxs : i < xs.size := by rw [hsz]; omega
   have hx24 : x < 2 ^ 24 := h24 x (hp.mem_iff.1 (List.mem_of_getElem? hx))
   have hxd : d'[i]! = x := by
    rw [getElem!_pos _ i (by omega)]
    have := (List.getElem?_eq_some_iff.1 hx).2
    simpa using this
   unfold putCells
   simp only [Nat.mul_one, Nat.add_zero]
   rw [Array.getElem?_mapIdx, Array.getElem?_eq_getElem hxs, Option.map_some, if_pos ⟨Nat.zero_le _, by omega⟩, Nat.sub_zero, hxd]
   unfold encU
   rw [Nat.mod_eq_of_lt hx24]
abbrev pairU (p : Nat × Int) : Value × Value := (.int .u32 (p.1 : Int), .int .i64 p.2)
def mapU (l : List (Nat × Int)) : Km := {
 q O v B w h := ∃ (b clock : Nat) (es : Array MapEntry), v = .map (some b) ∧ B ≤ b ∧ O b = h + 1 ∧ w.heap[b]? = some (.map es clock) ∧ es.toList.map (fun e => (e.key, e.val)) = l.map pairU
 mono := by
  rintro O O' v B w w' h hk ⟨b, clock, es, h1, h2, h3, h4, h5⟩
  have hb : b < w.heap.size := (Array.getElem?_eq_some_iff.1 h4).1
  obtain ⟨k1, k2⟩ := hk b hb (.inr h3)
  exact ⟨b, clock, es, h1, h2, k1.trans h3, k2.trans h4, h5⟩ }
theorem findNow_u {td : IntKind} {k : Nat} : ∀ {es : List MapEntry} {l : List (Nat × Int)} {i : Nat}, es.map (fun e => (e.key, e.val)) = l.map pairU →
  (lookU l k = none ∧ Instr.findNow (.int td) (.int .u32 (k : Int)) es i = some none) ∨ ∃ (j : Nat) (v : Int), lookU l k = some v ∧ j < es.length ∧ Instr.findNow (.int td) (.int .u32 (k : Int)) es i = some (some (i + j, .int .i64 v)) ∧ (es[j]?).map (·.key) = some (.int .u32 (k : Int)) ∧
   ∀ y : Int, (es.modify j fun e => { e with key := .int .u32 (k : Int), val := .int .i64 y }).map (fun e => (e.key, e.val)) = (updU l k y).map pairU
 | [], [], i, _ => .inl ⟨rfl, rfl⟩
 | [], _ :: _, _, h => by simp at h
 | _ :: _, [], _, h => by simp at h
 | e :: es, p :: l, i, h => by
  simp only [List.map_cons, List.cons.injEq, Prod.mk.injEq] at h
  obtain ⟨⟨h1, h2⟩, h3⟩ := h
  by_cases hk : k = p.1
  ·refine .inr ⟨0, p.2, by simp [lookU, hk], by simp, ?_, by simp [h1, hk], fun y => ?_⟩
   ·simp only [Instr.findNow, h1, Instr.sameNow, h2]
    simp [hk]
   ·simp only [updU]; rw [if_pos hk]; simp [h3, hk]
  ·have hs : Instr.sameNow (.int td) (.int .u32 (k : Int)) e.key = some false := by
    rw [h1]; simp only [Instr.sameNow, if_true, Option.some.injEq, beq_eq_false_iff_ne, ne_eq]; omega
   rcases findNow_u (td := td) (k := k) (i := i + 1) h3 with ⟨a1, a2⟩ | ⟨j, v, a1, a2, a3, a4, a5⟩
   ·refine .inl ⟨by simp only [lookU]; rw [if_neg hk]; exact a1, ?_⟩
    simp only [Instr.findNow, hs]; exact a2
   ·refine .inr ⟨j + 1, v, by simp only [lookU]; rw [if_neg hk]; exact a1, by simp; omega, ?_, by simpa using a4, fun y => ?_⟩
    ·simp only [Instr.findNow, hs]; rw [a3, show i + 1 + j = i + (j + 1) by omega]
    ·simp only [updU]; rw [if_neg hk]
     simp only [List.modify_succ_cons, List.map_cons, a5 y, h1, h2]
def isU (P : Program) (t : Nat) : Bool := match P.underlying t with | some (.int _) => true | _ => false
section
variable {P : Program} {B : Nat} {o : Oper} {e : Env} {M : Mem}
theorem run_checkKey_u {em : Bool} {d t : Nat} {k : Int} (ht : isU P t = true) (w : World) : (Instr.checkKey em (d + 1) t (.int .u32 k)).run P w = .ok () w := by
 unfold isU at ht
 cases hu : P.underlying t with
 | none => simp [hu] at ht
 | some td =>
  cases td <;> simp only [hu] at ht <;> try (cases ht; done)
  rw [Instr.checkKey]
  simp [run_underlying hu]
theorem run_findKey_u {t k : Nat} (ht : isU P t = true) {es : List MapEntry} {l : List (Nat × Int)} (h : es.map (fun e => (e.key, e.val)) = l.map pairU) (w : World) :
  (lookU l k = none ∧ (Instr.findKey t (.int .u32 (k : Int)) es).run P w = .ok none w) ∨ ∃ (j : Nat) (v : Int), lookU l k = some v ∧ j < es.length ∧ (Instr.findKey t (.int .u32 (k : Int)) es).run P w = .ok (some (j, .int .i64 v)) w ∧ (es[j]?).map (·.key) = some (.int .u32 (k : Int)) ∧
   ∀ y : Int, (es.modify j fun e => { e with key := .int .u32 (k : Int), val := .int .i64 y }).map (fun e => (e.key, e.val)) = (updU l k y).map pairU := by
 unfold isU at ht
 cases hu : P.underlying t with
 | none => simp [hu] at ht
 | some td =>
  cases td <;> simp only [hu] at ht <;> try (cases ht; done)
  rename_i kd
  rcases findNow_u (td := kd) (k := k) (i := 0) h with ⟨a1, a2⟩ | ⟨j, v, a1, a2, a3, a4, a5⟩
  ·exact .inl ⟨a1, by simp [Instr.findKey, run_underlying hu, a2]⟩
  ·rw [Nat.zero_add] at a3
   exact .inr ⟨j, v, a1, a2, by simp [Instr.findKey, run_underlying hu, a3], a4, a5⟩
theorem OpSem.makeMapU {t : TypeId} (h : Nat) (ho : o.op = .makeMap t none) : OpSem P B o e M (.o h) (some (h, .any (mapU []))) := by
 intro O H a w hB hs hm K hK
 unfold Oper.wp
 simp only [execOp, ho, Option.map_none, Go.RowKit.run_makeMap, Sem.run_bind, Sem.run_pure, Result.andThen_ok]
 obtain ⟨H', hH'⟩ : ∃ H' : Nat → Value, H' = fun m => if m = h then (.map (some w.heap.size) : Value) else H m := ⟨_, rfl⟩
 have hH : H' h = .map (some w.heap.size) := by rw [hH']; simp
 refine hK (fun b' => if b' = w.heap.size then h + 1 else O b') H' (w.alloc (.map #[] 0)) _ ⟨fun b' hb' => by simp [Nat.ne_of_lt hb'], fun b' hb' _ => heap_alloc_old w _ hb', fun n hn => by rw [hH']; simp; intro e; subst e; exact (hn (by simp)).elim⟩
  ⟨rfl, rfl, rfl, by simp, fun b' hb' => heap_alloc_old w _ hb'⟩ ?_ (fun h' m he => ?_)
 ·have := RepS.o (O := fun b' => if b' = w.heap.size then h + 1 else O b') (w := w.alloc (.map #[] 0)) (H := H') h (by rw [hH]; rfl)
  rwa [hH] at this
 ·simp only [Option.some.injEq, Prod.mk.injEq] at he
  obtain ⟨rfl, rfl⟩ := he
  exact ⟨w.heap.size, 0, #[], hH, hB, by simp, heap_alloc_new w _, by simp⟩
theorem OpSem.lookupU {mt kt et h k : Nat} {ok : Bool} {m x : Operand} {l : List (Nat × Int)} (ho : o.op = .lookup mt m x ok) (hx : opS e m = some (.o h)) (hM : look M h = some (.any (mapU l))) (hk : opS e x = some (.d (.v (.int .u32 (k : Int)))))
  (hu : P.underlying mt = some (.map kt et)) (hi : isU P kt = true) (hz : (P.info? et).bind (·.zero) = some (.int .i64 0)) :
  OpSem P B o e M (if ok then .t [I (getU l k), Bo (lookU l k).isSome] else I (getU l k)) none :=
 .value fun O H a w hs hm => by
  have hx' := hs m (by simp [ho, Op.operands]) _ hx
  have hk' := rep_v (hs x (by simp [ho, Op.operands]) _ hk)
  obtain ⟨b, clock, es, g1, g2, g3, g4, g5⟩ := hm h _ hM
  generalize hv : a.eval m = v at hx'
  cases hx' with
  | o h _ =>
   rw [g1] at hv
   have hz' : (zeroValue et).run P w = .ok (.int .i64 0) w := by
    cases hq : P.info? et with
    | none => simp [hq] at hz
    | some i =>
     simp [hq] at hz
     simp [zeroValue, typeInfo, hq, hz]
   have hck := run_checkKey_u (P := P) (em := es.isEmpty) (d := 9999) (k := (k : Int)) hi w
   refine ⟨if ok then .tuple #[.int .i64 (getU l k), .bool (lookU l k).isSome] else .int .i64 (getU l k), ?_, ?_⟩
   ·simp only [execOp, ho, hv, hk', Instr.lookup, Sem.run_bind, run_underlying hu, Result.andThen_ok, Sem.run_pure, Go.MapKept.run_getObj_map g4, hck]
    rcases run_findKey_u (P := P) (k := k) hi g5 w with ⟨a1, a2⟩ | ⟨j, v, a1, _, a3, _⟩
    ·simp only [a2, Result.andThen_ok, Sem.run_bind, hz', Sem.run_pure]
     cases ok <;> simp [getU, a1]
    ·simp only [a3, Result.andThen_ok, Sem.run_pure]
     cases ok <;> simp [getU, a1]
   ·cases ok with
    | false => exact .d _ _ (.v _)
    | true =>
     refine .t [.int .i64 (getU l k), .bool (lookU l k).isSome] _ rfl fun i x s hx hs => ?_
     rcases i with _ | _ | i <;> simp at hx hs <;> subst hx <;> subst hs <;> exact .d _ _ (.v _)
theorem OpSt.updU {mt kt et h k : Nat} {m x v : Operand} {y : Int} {l : List (Nat × Int)} (ho : o.op = .mapUpdate mt m x v ∨ o.op = .insert mt m x v) (hx : opS e m = some (.o h)) (hk : opS e x = some (.d (.v (.int .u32 (k : Int))))) (hv : opS e v = some (I y))
  (hu : P.underlying mt = some (.map kt et)) (hi : isU P kt = true) : OpSt P B o e h (.any (mapU l)) (.any (mapU (Go.Eng.updU l k y))) .u := by
 intro O H a w hBw hsl hm K hK
 have hop : m ∈ o.op.operands ∧ x ∈ o.op.operands ∧ v ∈ o.op.operands := by
  rcases ho with ho | ho <;> simp [ho, Op.operands]
 have hx' := hsl m hop.1 _ hx
 have hk' := rep_v (hsl x hop.2.1 _ hk)
 have hvb := rep_v (hsl v hop.2.2 _ hv)
 obtain ⟨b, clock, es, g1, g2, g3, g4, g5⟩ := hm
 generalize hva : a.eval m = va at hx'
 cases hx' with
 | o h _ =>
  rw [g1] at hva
  have hck := run_checkKey_u (P := P) (em := false) (d := 9999) (k := (k : Int)) hi w
  have hb : b < w.heap.size := (Array.getElem?_eq_some_iff.1 g4).1
  obtain ⟨es', c', h5, hrun⟩ : ∃ (es' : Array MapEntry) (c' : Nat), es'.toList.map (fun e => (e.key, e.val)) = (Go.Eng.updU l k y).map pairU ∧ (Instr.mapUpdate mt (.map (some b)) (.int .u32 (k : Int)) (.int .i64 y)).run P w = .ok () { w with heap := w.heap.setIfInBounds b (.map es' c') } := by
   rcases run_findKey_u (P := P) (k := k) hi g5 w with ⟨a1, a2⟩ | ⟨j, v0, a1, a2, a3, a4, a5⟩
   ·refine ⟨es.push { key := .int .u32 (k : Int), val := .int .i64 y, born := clock }, clock + 1, by rw [updU_new a1]; simp [g5], ?_⟩
    simp only [Instr.mapUpdate, Sem.run_bind, run_underlying hu, Result.andThen_ok, Go.MapKept.run_getObj_map g4, hck, a2, Go.MapKept.run_setObj_map _ g4]
   ·refine ⟨es.modify j fun e => { e with key := .int .u32 (k : Int), val := .int .i64 y }, clock, by rw [Array.toList_modify]; exact a5 y, ?_⟩
    have hke : ((es[j]?).map (·.key)).getD (.int .u32 (k : Int)) = .int .u32 (k : Int) := by
     have : (es[j]?).map (·.key) = some (.int .u32 (k : Int)) := by simpa using a4
     rw [this]; rfl
    have hsb : Instr.sameBits 10000 (.int .u32 (k : Int)) (.int .u32 (k : Int)) = true := by unfold Instr.sameBits; simp
    simp only [Instr.mapUpdate, Sem.run_bind, run_underlying hu, Result.andThen_ok, Go.MapKept.run_getObj_map g4, hck, a3, hke, Instr.keyThatStays, hsb, if_true, Sem.run_pure]
    simp [Go.MapKept.run_setObj_map _ g4]
  unfold Oper.wp
  rcases ho with ho | ho <;> (
   simp only [execOp, ho, hva, hk', hvb, Sem.run_bind, hrun, Result.andThen_ok, Sem.run_pure, Oper.upon_skip]
   refine hK _ _ ⟨fun _ _ => rfl, fun b' hb' hne => ?_, fun _ _ => rfl⟩ ⟨rfl, rfl, rfl, by simp, fun b' hb' => ?_⟩ ⟨b, c', es', g1, g2, g3, by simp [hb], h5⟩ (.u _)
   ·have : b' ≠ b := fun e => by subst e; exact hne h rfl g3
    simp [Array.getElem?_setIfInBounds, Ne.symm this]
   ·have : b' ≠ b := by omega
    simp [Array.getElem?_setIfInBounds, Ne.symm this])
end
theorem bshl32 {t : TypeId} {n : Int} (h0 : 0 ≤ n) (h1 : n ≤ 23) : binOp .shl t (.int .u32 1) (.int .i64 n) = pure (.int .u32 ((2 ^ n.toNat : Nat) : Int)) := by
 rw [show binOp .shl t (.int .u32 1) (.int .i64 n) = Op.shift .shl .u32 1 .i64 n from rfl, shift_shl_any _ _ _ _ h0]
 have e : min n.toNat IntKind.u32.bits = n.toNat := by simp [IntKind.bits]; omega
 rw [e]
 have hp : 2 ^ n.toNat ≤ 2 ^ 23 := Nat.pow_le_pow_right (by omega) (by omega)
 have hc : (1 : Int) * 2 ^ n.toNat = ((2 ^ n.toNat : Nat) : Int) := by simp
 rw [hc]
 clear hc e
 generalize 2 ^ n.toNat = z at hp ⊢
 rw [wrap_u32 (by omega) (by omega)]
theorem bneqU {t : TypeId} {m : Nat} : binOp .neq t (.int .u32 (m : Int)) (.int .u32 0) = pure (.bool (!decide (m = 0))) := by
 rw [binOp_neq]
 have e : decide (m = 0) = decide ((m : Int) = 0) := by congr 1; simp
 rw [e]; congr 2
theorem beqlU {t : TypeId} {m : Nat} : binOp .eql t (.int .u32 (m : Int)) (.int .u32 0) = pure (.bool (decide (m = 0))) := by
 rw [binOp_eql]
 have e : decide (m = 0) = decide ((m : Int) = 0) := by congr 1; simp
 rw [e]; congr 2
end Go.Eng
end

section
namespace Go.Eng
def tabOk (s : ByteArray) : Bool := s.size == 256 && (List.range 256).all fun n => s.data.toList[n]?.map (·.toNat) == some (c8 n)
theorem tabIdx {P : Program} {t : Nat} {s : ByteArray} {k : IntKind} {n : Int} (w : World) (ht : P.underlying t = some .string) (hs : tabOk s = true) (h0 : 0 ≤ n) (h1 : n < 256) : (Instr.index t (.string s) (.int k n)).run P w = .ok (.int .u8 (c8 n.toNat : Nat)) w := by
 unfold tabOk at hs
 simp only [Bool.and_eq_true, beq_iff_eq, List.all_eq_true, List.mem_range] at hs
 obtain ⟨h2, h3⟩ := hs
 have hi : 0 ≤ n ∧ n < s.size := by omega
 rw [run_index_string w t s k n ht, dif_pos hi]
 have h4 := h3 n.toNat (by omega)
 have h5 : n.toNat < s.data.size := by have : s.size = s.data.size := rfl; omega
 rw [Array.getElem?_toList, Array.getElem?_eq_getElem h5, Option.map_some, Option.some.injEq] at h4
 have h6 : (s[n.toNat]'(by omega)).toNat = c8 n.toNat := h4
 rw [h6]
section
variable {P : Program} {ops : Array Oper} {C : World → Prop} {Q : Act → Prop} {a : Act} {o : Oper} {rest : List Oper} {t d : Nat} {x y : Operand}
theorem wpQ_val {v : Value} (hg : o.guard = none) (hd : o.dst = some d) (hrun : ∀ w, (execOp a.eval o).run P w = .ok (.value v) w) (hn : wpQuiet P ops C Q rest (a.put (some d) v)) : wpQuiet P ops C Q (o :: rest) a := by
 refine wpQuiet_step (fun K hK => ?_)
 rw [if_pos (by simp [Region.wanted, hg])]
 refine ⟨v, fun w _ => ?_, hK _ (by rw [hd]; exact hn)⟩
 unfold Oper.quietAt
 rw [hrun]; exact ⟨rfl, rfl⟩
theorem wpQ_idx {s : ByteArray} {k : IntKind} {n : Int} (ho : o.op = .index t x y) (hx : a.eval x = .string s) (hy : a.eval y = .int k n) (ht : P.underlying t = some .string) (hs : tabOk s = true) (h0 : 0 ≤ n) (h1 : n < 256) (hg : o.guard = none) (hd : o.dst = some d)
  (hn : wpQuiet P ops C Q rest (a.put (some d) (.int .u8 (c8 n.toNat : Nat)))) : wpQuiet P ops C Q (o :: rest) a :=
 wpQ_val hg hd (fun w => by simp [execOp, ho, hx, hy, tabIdx w ht hs h0 h1]) hn
theorem wpQ_bin {b : BinOp} {u : Nat} {kx ky : IntKind} {nx ny : Int} {v : Value} (ho : o.op = .binOp b t x y u) (hx : a.eval x = .int kx nx) (hy : a.eval y = .int ky ny) (hb : binOp b t (.int kx nx) (.int ky ny) = pure v) (hg : o.guard = none) (hd : o.dst = some d)
  (hn : wpQuiet P ops C Q rest (a.put (some d) v)) : wpQuiet P ops C Q (o :: rest) a :=
 wpQ_val hg hd (fun w => by simp [execOp, ho, hx, hy, eqGuard_at_int, hb]) hn
theorem wpQ_mv {v : Value} (ho : o.op = .move x ∨ o.op = .assign x) (hx : a.eval x = v) (hg : o.guard = none) (hd : o.dst = some d) (hn : wpQuiet P ops C Q rest (a.put (some d) v)) : wpQuiet P ops C Q (o :: rest) a :=
 wpQ_val hg hd (fun w => by rcases ho with ho | ho <;> simp [execOp, ho, hx]) hn
theorem wpQ_conv {src dst : Nat} {k kx : IntKind} {n : Int} (ho : o.op = .convert src dst x) (hx : a.eval x = .int kx n) (ht : cvk P src dst = some k) (hw : k.wrap n = n) (hg : o.guard = none) (hd : o.dst = some d) (hn : wpQuiet P ops C Q rest (a.put (some d) (.int k n))) : wpQuiet P ops C Q (o :: rest) a :=
 wpQ_val hg hd (fun w => by
  have hh : ∃ d, P.underlying src = some d ∧ P.underlying dst = some (.int k) := by
   unfold cvk at ht
   split at ht
   ·rename_i d k' h1 h2; cases ht; exact ⟨d, h1, h2⟩
   ·cases ht
  obtain ⟨d, h1, h2⟩ := hh
  have : (convert src dst (.int kx n)).run P w = .ok (.int k n) w := by simp [convert, run_underlying h1, run_underlying h2, Conv.intToInt, hw]
  simp [execOp, ho, hx, this]) hn
end
theorem c8_le (x : Nat) : c8 x ≤ 8 := by
 have : c8 x ≤ (List.range 8).length := List.countP_le_length
 simpa using this
theorem badd8 {t : TypeId} {m n : Int} (h0 : 0 ≤ m + n) (h1 : m + n ≤ 255) : binOp .add t (.int .u8 m) (.int .u8 n) = pure (.int .u8 (m + n)) := by
 rw [binOp_add]; simp only [Op.intArith]; rw [IntWalk.u8_in _ ⟨h0, by omega⟩]
theorem band255 {t : TypeId} {m : Int} (h0 : 0 ≤ m) (h1 : m ≤ 4294967295) : binOp .and t (.int .u32 m) (.int .u32 255) = pure (.int .u32 (m % 256)) := by
 rw [binOp_and, intBits_and]
 congr 2
 unfold bits
 obtain ⟨n, rfl⟩ := Int.eq_ofNat_of_zero_le h0
 have hb : (BitVec.ofInt 32 (n : Int) &&& BitVec.ofInt 32 255).toNat = n % 256 := by
  have e1 : BitVec.ofInt 32 (n : Int) = BitVec.ofNat 32 n := by simp
  have e2 : BitVec.ofInt 32 255 = BitVec.ofNat 32 255 := by rfl
  rw [e1, e2, BitVec.toNat_and, BitVec.toNat_ofNat, BitVec.toNat_ofNat]
  have e3 : n % 2 ^ 32 = n := Nat.mod_eq_of_lt (by omega)
  have e4 : 255 % 2 ^ 32 = 2 ^ 8 - 1 := by decide
  rw [e3, e4, Nat.and_two_pow_sub_one_eq_mod]
 have hb' : ((BitVec.ofInt IntKind.u32.bits (n : Int) &&& BitVec.ofInt IntKind.u32.bits 255).toNat : Int) = ((n % 256 : Nat) : Int) := congrArg Int.ofNat hb
 exact (congrArg IntKind.u32.wrap hb').trans ((wrap_u32 (by omega) (by omega)).trans (by omega))
end Go.Eng
end

section
namespace Go.Eng
noncomputable def beJ (t : Tsk) (s : List Int) : Nat := open Classical in if h : ∃ J, BeOk t s J then h.choose else 0
noncomputable def beS (t : Tsk) (s : List Int) : List Nat := boW t s (beJ t s)
noncomputable def beE (t : Tsk) (s : List Int) : Int × Int := open Classical in if sttF t s ≠ (0, 0) then sttF t s else if ∃ J, BeOk t s J then (0, 0) else (10, -7)
noncomputable def beV (t : Tsk) (s : List Int) : Int := open Classical in if sttF t s ≠ (0, 0) then 0 else if ∃ J, BeOk t s J then (b2T t (mp0 (wdF s) (beS t s)) (sortU (beS t s)) (sortU (beS t s)).length).2 else 0
section
variable {t : Tsk} {s : List Int} {J j : Nat} {S : List Nat}
theorem beOk_uniq (h : BeOk t s J) (h' : BeOk t s j) : J = j := by
 rcases Nat.lt_trichotomy J j with q | q | q
 ·have := (h'.2 J q).1; have := h.1; omega
 ·exact q
 ·have := (h.2 j q).1; have := h'.1; omega
theorem beJ_eq (h : BeOk t s J) : beJ t s = J := by
 have he : ∃ J, BeOk t s J := ⟨J, h⟩
 unfold beJ
 rw [dif_pos he]
 exact beOk_uniq he.choose_spec h
theorem be_1 (h : sttF t s ≠ (0, 0)) : 0 = beV t s ∧ sttF t s = beE t s := by unfold beV beE; rw [if_pos h, if_pos h]; exact ⟨rfl, rfl⟩
theorem be_2 (h : sttF t s = (0, 0)) (hn : ¬ ∃ J, BeOk t s J) : 0 = beV t s ∧ (10, -7) = beE t s := by
 have hz : ¬ (sttF t s ≠ (0, 0)) := fun q => q h
 unfold beV beE; rw [if_neg hz, if_neg hz, if_neg hn, if_neg hn]; exact ⟨rfl, rfl⟩
theorem be_0 (h : sttF t s = (0, 0)) (hJ : BeOk t s J) : (b2T t (mp0 (wdF s) (boW t s J)) (sortU (boW t s J)) (sortU (boW t s J)).length).2 = beV t s ∧ (0, 0) = beE t s := by
 have hz : ¬ (sttF t s ≠ (0, 0)) := fun q => q h
 have hx : ∃ J, BeOk t s J := ⟨J, hJ⟩
 unfold beV beE beS
 rw [if_neg hz, if_neg hz, if_pos hx, if_pos hx, beJ_eq hJ]; exact ⟨rfl, rfl⟩
theorem be_over (h : ∀ m, m < j → m < (boW t s m).length ∧ (boW t s (m + 1)).length ≤ 2000) (hj : j < (boW t s j).length) (ho : 2000 < (boW t s (j + 1)).length) : ¬ ∃ J, BeOk t s J := by
 rintro ⟨J, h1, h2⟩
 rcases Nat.lt_trichotomy J j with q | q | q
 ·have := (h J q).1; omega
 ·subst q; omega
 ·have := (h2 j q).2; omega
theorem cl_ok (hV : TskV t) (hs : ∀ p, p ∈ s → 0 ≤ p ∧ p < t.facts) (h : BeOk t s J) : ClW t s (boW t s J) := by
 obtain ⟨h1, h2, _⟩ := boW_p hV hs (j := J) fun m hm => (h.2 m hm).1
 refine ⟨h1.w, h1.lt, fun w hw i hi ha => ?_⟩
 obtain ⟨k, hk, he⟩ := List.getElem_of_mem hw
 have he : nth (boW t s J) k = w := by rw [nth_eq hk]; exact he
 have := (h2 k (by have := h.1; omega)).2 i hi (by rw [he]; exact ha)
 rwa [he] at this
theorem mp0_p (hs : ∀ p, p ∈ s → 0 ≤ p ∧ p < t.facts) : B2P t s S (mp0 (wdF s) S) := by
 refine ⟨fun w hw => ?_⟩
 rw [lookU_mp0, if_pos hw]
 refine ⟨_, rfl, by split <;> omega, by split <;> omega, fun h => ?_⟩
 by_cases hw0 : w = wdF s
 ·rw [if_pos hw0]
  refine ⟨[], by simp, fun p hp => ?_, rfl⟩
  rw [hw0, wdF_bit hs, decide_eq_true_eq] at hp; exact hp
 ·rw [if_neg hw0] at h; omega
theorem B2P.rng {m : List (Nat × Int)} (h : B2P t s S m) {w : Nat} (hw : w ∈ S) : 0 ≤ getU m w ∧ getU m w ≤ 1000000000 := by
 obtain ⟨v, e, h1, h2, _⟩ := h.k w hw
 have : getU m w = v := by simp [getU, e]
 omega
theorem sortU_mem {l : List Nat} {w : Nat} : w ∈ sortU l ↔ w ∈ l := (sortU_perm l).1.mem_iff
theorem be_spec (h : sttF t s = (0, 0)) (hJ : BeOk t s J) : (0 ≤ beV t s ∧ beV t s ≤ 1000000000) ∧ (beV t s < 1000000000 → ∃ l, Rx t s t.goal l ∧ csO t l = beV t s) ∧ ∀ l, Rx t s t.goal l → beV t s ≤ csO t l := by
 obtain ⟨hV, hS⟩ := sttF_ok h
 have hs : ∀ p, p ∈ s → 0 ≤ p ∧ p < t.facts := fun p hp => setP_mem hS hp
 have hC := cl_ok hV hs hJ
 obtain ⟨h1, h2, h3⟩ := sortU_perm (boW t s J)
 rw [← (be_0 h hJ).1]
 refine b2_spec hV hs hC (fun w => sortU_mem) (fun i j hij hj => ?_) (mp0_p hs) (by unfold getU; rw [lookU_mp0, if_pos hC.w, if_pos rfl]; exact Int.le_refl _)
 have := h3 i j hij (by omega)
 have hi2 := hC.lt _ (sortU_mem.1 (nth_mem (l := sortU (boW t s J)) (n := (i : Int)) (by omega) (by omega)))
 have hj2 := hC.lt _ (sortU_mem.1 (nth_mem (l := sortU (boW t s J)) (n := (j : Int)) (by omega) (by omega)))
 unfold oc24 at this
 rw [Nat.mod_eq_of_lt hi2, Nat.mod_eq_of_lt hj2] at this
 exact this
theorem bi_n {x : List Nat} {j i : Nat} (h : ¬ apW t (nth (biW t x j i) j) i) : biW t x j (i + 1) = biW t x j i := by simp only [biW]; rw [if_neg (fun q => h q.1)]
theorem bi_o {x : List Nat} {j i : Nat} (h : nxW t (nth (biW t x j i) j) i ∈ biW t x j i) : biW t x j (i + 1) = biW t x j i := by simp only [biW]; rw [if_neg (fun q => q.2 h)]
theorem bi_a {x : List Nat} {j i : Nat} (h : apW t (nth (biW t x j i) j) i) (h2 : nxW t (nth (biW t x j i) j) i ∉ biW t x j i) : biW t x j (i + 1) = biW t x j i ++ [nxW t (nth (biW t x j i) j) i] := by simp only [biW]; rw [if_pos ⟨h, h2⟩]
theorem mp0_app {w0 w : Nat} {x : List Nat} (hw : w0 ∈ x) (h : w ∉ x) : updU (mp0 w0 x) w 1000000000 = mp0 w0 (x ++ [w]) := by
 rw [updU_new (by rw [lookU_mp0, if_neg h])]
 have : w ≠ w0 := fun e => h (by rw [e]; exact hw)
 simp [mp0, this]
theorem look_some {w0 w : Nat} {x : List Nat} : (lookU (mp0 w0 x) w).isSome = decide (w ∈ x) := by
 rw [lookU_mp0]; split <;> simp_all
theorem plain_u32 (l : List Nat) : plainB (l.map u32C) = true := by simp [plainB]
end
end Go.Eng
end

section
namespace Go.Eng
section
variable {t : Tsk} {l : List Int}
end
end Go.Eng
end

section
namespace Go.Eng
end Go.Eng
end

section
namespace Go.Eng
end Go.Eng
end

section
namespace Go.Eng
theorem OpSem.binK {P : Program} {B : Nat} {o : Oper} {e : Env} {M : Mem} {op : BinOp} {t u : TypeId} {x y : Operand} {k k' : IntKind} {m n : Int} {z : Value} (ho : o.op = .binOp op t x y u) (hx : opS e x = some (.d (.v (.int k m)))) (hy : opS e y = some (.d (.v (.int k' n))))
  (hz : binOp op t (.int k m) (.int k' n) = pure z) : OpSem P B o e M (.d (.v z)) none :=
 .value fun O H a w hs _ => by
  have hx' := hs x (by simp [ho, Op.operands]) _ hx
  have hy' := hs y (by simp [ho, Op.operands]) _ hy
  generalize hv : a.eval x = v at hx'
  generalize hu : a.eval y = u at hy'
  cases hx' with
  | d _ _ hx' => cases hx' with
   | v _ => cases hy' with
    | d _ _ hy' => cases hy' with
     | v _ => exact ⟨z, by simp [execOp, ho, hv, hu, eqGuard_at_int, hz], .d _ _ (.v z)⟩
end Go.Eng
end

section
namespace Go.Proofs.YthjmgcopfipabaaGreat
open Go.Eng
set_option maxRecDepth 10000
set_option maxHeartbeats 4000000
open Go.Shelf Go.RowKit Go.Lib
theorem oc32 (x : Nat) (hx : x < 2 ^ 24) (W : World) : Calls Tryz.prog 31 #[.int .u32 (x : Int)] W fun e w' => e = .returned (.int .i64 (ocW x)) ∧ ∃ q, w' = W.drewN q := by
  go_enter Tryz.func31, Tryz.ntmps31
  go_upto_region 1 with fail
  refine wp_region_quiet_lit (by kernel_rfl) (by kernel_rfl) ?_
  have h1 := c8_le ((x : Int) / 2 ^ (24 : Int).toNat).toNat
  have h2 := c8_le ((x : Int) / 2 ^ (16 : Int).toNat % 256).toNat
  have h3 := c8_le ((x : Int) / 2 ^ (8 : Int).toNat % 256).toNat
  have h4 := c8_le ((x : Int) % 256).toNat
  refine wpQ_mv (v := .int _ _) (.inl rfl) rfl rfl rfl ?_
  simp only [Act.put, List.setIfInBounds_toArray, List.set_cons_zero, List.set_cons_succ]
  refine wpQ_bin rfl rfl rfl (bshrK (by decide) (by decide)) rfl rfl ?_
  simp only [Act.put, List.setIfInBounds_toArray, List.set_cons_zero, List.set_cons_succ]
  refine wpQ_idx rfl rfl rfl Tryz.underlying9 (by kernel_rfl) (by simp; omega) (by simp; omega) rfl rfl ?_
  simp only [Act.put, List.setIfInBounds_toArray, List.set_cons_zero, List.set_cons_succ]
  refine wpQ_mv (v := .int _ _) (.inl rfl) rfl rfl rfl ?_
  simp only [Act.put, List.setIfInBounds_toArray, List.set_cons_zero, List.set_cons_succ]
  refine wpQ_bin rfl rfl rfl (bshrK (by decide) (by decide)) rfl rfl ?_
  simp only [Act.put, List.setIfInBounds_toArray, List.set_cons_zero, List.set_cons_succ]
  refine wpQ_bin rfl rfl rfl (band255 (by simp; omega) (by simp; omega)) rfl rfl ?_
  simp only [Act.put, List.setIfInBounds_toArray, List.set_cons_zero, List.set_cons_succ]
  refine wpQ_idx rfl rfl rfl Tryz.underlying9 (by kernel_rfl) (by simp; omega) (by simp; omega) rfl rfl ?_
  simp only [Act.put, List.setIfInBounds_toArray, List.set_cons_zero, List.set_cons_succ]
  refine wpQ_bin rfl rfl rfl (badd8 (by omega) (by omega)) rfl rfl ?_
  simp only [Act.put, List.setIfInBounds_toArray, List.set_cons_zero, List.set_cons_succ]
  refine wpQ_mv (v := .int _ _) (.inl rfl) rfl rfl rfl ?_
  simp only [Act.put, List.setIfInBounds_toArray, List.set_cons_zero, List.set_cons_succ]
  refine wpQ_bin rfl rfl rfl (bshrK (by decide) (by decide)) rfl rfl ?_
  simp only [Act.put, List.setIfInBounds_toArray, List.set_cons_zero, List.set_cons_succ]
  refine wpQ_bin rfl rfl rfl (band255 (by simp; omega) (by simp; omega)) rfl rfl ?_
  simp only [Act.put, List.setIfInBounds_toArray, List.set_cons_zero, List.set_cons_succ]
  refine wpQ_idx rfl rfl rfl Tryz.underlying9 (by kernel_rfl) (by simp; omega) (by simp; omega) rfl rfl ?_
  simp only [Act.put, List.setIfInBounds_toArray, List.set_cons_zero, List.set_cons_succ]
  refine wpQ_bin rfl rfl rfl (badd8 (by omega) (by omega)) rfl rfl ?_
  simp only [Act.put, List.setIfInBounds_toArray, List.set_cons_zero, List.set_cons_succ]
  refine wpQ_mv (v := .int _ _) (.inl rfl) rfl rfl rfl ?_
  simp only [Act.put, List.setIfInBounds_toArray, List.set_cons_zero, List.set_cons_succ]
  refine wpQ_bin rfl rfl rfl (band255 (by omega) (by omega)) rfl rfl ?_
  simp only [Act.put, List.setIfInBounds_toArray, List.set_cons_zero, List.set_cons_succ]
  refine wpQ_idx rfl rfl rfl Tryz.underlying9 (by kernel_rfl) (by omega) (by omega) rfl rfl ?_
  simp only [Act.put, List.setIfInBounds_toArray, List.set_cons_zero, List.set_cons_succ]
  refine wpQ_bin rfl rfl rfl (badd8 (by omega) (by omega)) rfl rfl ?_
  simp only [Act.put, List.setIfInBounds_toArray, List.set_cons_zero, List.set_cons_succ]
  refine wpQ_conv (k := .i64) rfl rfl (by kernel_rfl) (IntWalk.i64_in _ ⟨by omega, by omega⟩) rfl rfl ?_
  simp only [Act.put, List.setIfInBounds_toArray, List.set_cons_zero, List.set_cons_succ]
  refine wpQ_mv (v := .int _ _) (.inr rfl) rfl rfl rfl ?_
  simp only [Act.put, List.setIfInBounds_toArray, List.set_cons_zero, List.set_cons_succ]
  refine wpQuiet_nil ?_
  rintro w' ⟨n, rfl⟩
  have he : (c8 ((x : Int) / 2 ^ (24 : Int).toNat).toNat : Int) + (c8 ((x : Int) / 2 ^ (16 : Int).toNat % 256).toNat : Nat) + (c8 ((x : Int) / 2 ^ (8 : Int).toNat % 256).toNat : Nat) + (c8 ((x : Int) % 256).toNat : Nat) = (ocW x : Nat) := by
    unfold ocW
    have e1 : ((x : Int) / 2 ^ (24 : Int).toNat).toNat = x / 2 ^ 24 := by simp; omega
    have e2 : ((x : Int) / 2 ^ (16 : Int).toNat % 256).toNat = x / 2 ^ 16 % 256 := by simp; omega
    have e3 : ((x : Int) / 2 ^ (8 : Int).toNat % 256).toNat = x / 2 ^ 8 % 256 := by simp; omega
    have e4 : ((x : Int) % 256).toNat = x % 256 := by omega
    rw [e1, e2, e3, e4]; omega
  rw [he]
  rename_i K hK
  simp only [Exit.then]
  refine hK _ _ ?_
  go_wp2
  go_ret
  exact ⟨rfl, n, rfl⟩
theorem cmpZ_W (x y : Int) (w : World) : Calls Tryz.prog 30 #[.int .i64 x, .int .i64 y] w fun e w' => e = .returned (.int .i64 (cmpZ x y)) ∧ w' = w := by
  have hn : ∀ (z : Int) (w : World), Calls Tryz.prog 58 #[.int .i64 z] w fun e w' => e = .returned (.bool false) ∧ w' = w := by
    intro z w
    go_enter Tryz.func58, Tryz.ntmps58
    go_wp2
    go_ret
    exact ⟨by simp, rfl⟩
  rcases Int.lt_trichotomy x y with h | h | h
  · go_enter Tryz.func30, Tryz.ntmps30
    go_wp2_with (go_at_call 58; refine (hn _ _).mono ?_; rintro e w' ⟨rfl, rfl⟩)
    all_goals go_ret
    all_goals exact ⟨by first | rfl | (unfold cmpZ; simp; omega) | (simp at *; omega), rfl⟩
  · subst h
    go_enter Tryz.func30, Tryz.ntmps30
    go_wp2_with (go_at_call 58; refine (hn _ _).mono ?_; rintro e w' ⟨rfl, rfl⟩)
    all_goals go_ret
    all_goals exact ⟨by first | rfl | (unfold cmpZ; simp) | (simp at *; omega), rfl⟩
  · go_enter Tryz.func30, Tryz.ntmps30
    go_wp2_with (go_at_call 58; refine (hn _ _).mono ?_; rintro e w' ⟨rfl, rfl⟩)
    all_goals go_ret
    all_goals exact ⟨by first | rfl | (unfold cmpZ; simp; omega) | (simp at *; omega), rfl⟩
theorem best_W (W : World) (x y : Nat) : Calls Tryz.prog 29 #[encU x, encU y] W fun e w' => e = .returned (.int .i64 (cfU x y)) ∧ ∃ q os', w' = _root_.Go.Sort.grow (W.drewN q) os' := by
  have hx : x % 2 ^ 24 < 2 ^ 24 := Nat.mod_lt _ (by decide)
  have hy : y % 2 ^ 24 < 2 ^ 24 := Nat.mod_lt _ (by decide)
  unfold cfU oc24 encU
  generalize x % 2 ^ 24 = a at hx ⊢
  generalize y % 2 ^ 24 = b at hy ⊢
  go_enter Tryz.func29, Tryz.ntmps29
  go_wp2_with (first | (go_at_call 31; refine (oc32 _ (by assumption) _).mono ?_; rintro e w' ⟨rfl, q, rfl⟩) | (go_at_call 30; refine (cmpZ_W _ _ _).mono ?_; rintro e w' ⟨rfl, rfl⟩))
  go_ret
  exact ⟨by simp, _, #[], by rw [Go.Sort.grow_empty]⟩
def Tryz.sortU_ren : Go.Shelf.Ren := ⟨fun | 6 => 28 | 15 => 50 | 14 => 57 | 28 => 91 | 29 => 92 | 20 => 95 | 21 => 96 | 22 => 97 | 23 => 98 | 24 => 99 | 25 => 100 | 26 => 101 | 27 => 102 | 46 => 123 | 47 => 117 | 48 => 118 | 49 => 124 | 50 => 125 | 57 => 133 | n => n, fun | 22 => 67 | 24 => 64 | 25 => 71 | 3 => 3 | 39 => 101 | 0 => 0 | 53 => 64 | 55 => 135 | 4 => 4 | 46 => 129 | 45 => 128 | 50 => 59 | 5 => 5 | 9 => 9 | 66 => 150 | 70 => 154 | 76 => 165 | 77 => 166 | n => n, fun | n => n⟩
theorem Tryz.sortU : Go.Proofs.SlLaysF.n6 Tryz.prog Tryz.sortU_ren := {
 mixed := by kernel_rfl
 f6 := ⟨Tryz.f28.name, by decide, shTq Tryz.func28 (by kernel_rfl)⟩
 f14 := ⟨Tryz.f57.name, by decide, shTq Tryz.func57 (by kernel_rfl)⟩
 f15 := shTq Tryz.func50 (by kernel_rfl)
 f20 := ⟨Tryz.f95.name, by decide, shTq Tryz.func95 (by kernel_rfl)⟩
 f21 := ⟨Tryz.f96.name, by decide, shTq Tryz.func96 (by kernel_rfl)⟩
 f22 := ⟨Tryz.f97.name, by decide, shTq Tryz.func97 (by kernel_rfl)⟩
 f23 := ⟨Tryz.f98.name, by decide, shTq Tryz.func98 (by kernel_rfl)⟩
 f24 := ⟨Tryz.f99.name, by decide, shTq Tryz.func99 (by kernel_rfl)⟩
 f25 := ⟨Tryz.f100.name, by decide, shTq Tryz.func100 (by kernel_rfl)⟩
 f26 := ⟨Tryz.f101.name, by decide, shTq Tryz.func101 (by kernel_rfl)⟩
 f27 := ⟨Tryz.f102.name, by decide, shTq Tryz.func102 (by kernel_rfl)⟩
 f28 := shTq Tryz.func91 (by kernel_rfl)
 f29 := shTq Tryz.func92 (by kernel_rfl)
 f46 := ⟨Tryz.f123.name, by decide, shTq Tryz.func123 (by kernel_rfl)⟩
 f47 := shTq Tryz.func117 (by kernel_rfl)
 f48 := shTq Tryz.func118 (by kernel_rfl)
 f49 := ⟨Tryz.f124.name, by decide, shTq Tryz.func124 (by kernel_rfl)⟩
 f50 := ⟨Tryz.f125.name, by decide, shTq Tryz.func125 (by kernel_rfl)⟩
 f57 := ⟨Tryz.f133.name, by decide, shTq Tryz.func133 (by kernel_rfl)⟩
 t0 := Tryz.underlying0
 a0 := Tryz.isAgg0
 z0 := Tryz.sizeOf0
 v0 := Tryz.zeroValue0
 t3 := Tryz.underlying3
 a3 := Tryz.isAgg3
 z3 := Tryz.sizeOf3
 v3 := Tryz.zeroValue3
 t4 := Tryz.underlying4
 a4 := Tryz.isAgg4
 z4 := Tryz.sizeOf4
 v4 := Tryz.zeroValue4
 t5 := Tryz.underlying5
 a5 := Tryz.isAgg5
 z5 := Tryz.sizeOf5
 v5 := Tryz.zeroValue5
 t9 := Tryz.underlying9
 a9 := Tryz.isAgg9
 z9 := Tryz.sizeOf9
 v9 := Tryz.zeroValue9
 t22 := Tryz.underlying67
 a22 := Tryz.isAgg67
 z22 := Tryz.sizeOf67
 v22 := Tryz.zeroValue67
 a24 := Tryz.isAgg64
 z24 := Tryz.sizeOf64
 t25 := Tryz.underlying71
 a25 := Tryz.isAgg71
 z25 := Tryz.sizeOf71
 v25 := Tryz.zeroValue71
 t39 := Tryz.underlying101
 a39 := Tryz.isAgg101
 z39 := Tryz.sizeOf101
 v39 := Tryz.zeroValue101
 t45 := Tryz.underlying128
 a45 := Tryz.isAgg128
 z45 := Tryz.sizeOf128
 v45 := Tryz.zeroValue128
 t46 := Tryz.underlying129
 a46 := Tryz.isAgg129
 z46 := Tryz.sizeOf129
 v46 := Tryz.zeroValue129
 t50 := Tryz.underlying59
 a50 := Tryz.isAgg59
 z50 := Tryz.sizeOf59
 v50 := Tryz.zeroValue59
 t53 := Tryz.underlying64
 a53 := Tryz.isAgg64
 z53 := Tryz.sizeOf64
 v53 := Tryz.zeroValue64
 t55 := Tryz.underlying135
 a55 := Tryz.isAgg135
 z55 := Tryz.sizeOf135
 v55 := Tryz.zeroValue135
 t66 := Tryz.underlying150
 a66 := Tryz.isAgg150
 z66 := Tryz.sizeOf150
 v66 := Tryz.zeroValue150
 t70 := Tryz.underlying154
 a70 := Tryz.isAgg154
 z70 := Tryz.sizeOf154
 v70 := Tryz.zeroValue154
 t76 := Tryz.underlying165
 a76 := Tryz.isAgg165
 z76 := Tryz.sizeOf165
 v76 := Tryz.zeroValue165
 t77 := Tryz.underlying166
 a77 := Tryz.isAgg166
 z77 := Tryz.sizeOf166
 v77 := Tryz.zeroValue166 }
theorem sortU_all (l : List Nat) (hl : l.length < 4611686018427387904) (hne : l ≠ []) (h24 : ∀ x, x ∈ l → x < 2 ^ 24) : DoesWS Tryz.prog 28 (fun v => [v, .func (.func 29) #[] #[]]) (.tuple #[]) 1 64 (l.map u32C) ((sortU l).map u32C) :=
  sortU_W Tryz.sortU 64 29 (enters_of Tryz.func29 (by kernel_rfl) rfl) best_W Tryz.call28 l hl hne h24
theorem relaxplan_word_does (s : List Int) (hs : ∀ p, p ∈ s → 0 ≤ p ∧ p < 24) (hl : s.length ≤ 1000000) : Does Tryz.prog false 27 [.d (ints s)] (.d (.v (.int .u32 (wdF s : Int)))) := by
 refine Does.of_body Tryz.func27 rfl rfl (by simp) Tryz.call27 (fun w0 O0 => ?_); refine .le 0 fun len0 => ?_; refine .g <| .r <| .a ?_; refine .z <| .a ?_; refine .sq <| .g <| .g <| .r <| .m ?_; refine .x (.n es22) ?_; refine .m ?_; refine .sq <| .k <| .loop (X := Nat) (fun k => k ≤ s.length) (fun k => [(3, .d (.v (.int .u32 ((wdT s k : Int))))), (6, .d (ints s)), (7, I (s.length)), (8, I (k))]) (fun k => []) (fun k => s.length - k) 0 (by omega) ?_ ?_
 ·exact .slot rfl (Le.of_eq rfl) <| .p2 <| .slot rfl (Le.of_eq (by simp)) <| .nil
 ·rintro k hkl
  refine .g <| .r <| .x (.b blss) ?_; refine .sq <| .g <| .cond rfl (fun c9 => ?_) (fun c9 => ?_)
  ·have hk : k < s.length := by simpa using c9
   have hsk := hs _ (nth_mem (l := s) (n := k) (by omega) (by omega))
   have hwl := wdT_lt (n := 24) (s := s) hs (k := k) (by omega)
   have hpw : (2 : Nat) ^ (nth s k).toNat < 2 ^ 24 := Nat.pow_lt_pow_right (by omega) (by omega)
   refine .p <| .g <| .g <| .k <| .g <| .r <| .x (.i es22) ?_; refine .x (.l1 vs3) ?_; refine .a ?_; refine .y <| .mm ?_; refine .x (OpSem.binK rfl rfl rfl (bshl32 (by omega) (by omega))) ?_; refine .x (OpSem.bin rfl rfl rfl (bor32 (by omega) (by omega))) ?_; refine .a ?_; refine .n <| .n <| .y <| .x .ad ?_; refine .m ?_; refine .n <| .again (k + 1) (by omega) ?_ (by omega); exact .slot rfl (Le.of_eq rfl) <| .p2 <| .slot rfl (Le.of_eq (by simp)) <| .nil
  ·have hk : k = s.length := by simp at c9; omega
   subst hk
   refine .u <| .u <| .u <| .b <| .z <| .m ?_; refine .a ?_; exact .sq <| .t <| .ret rfl (.tmp rfl <| .nil) rfl (Le.of_eq rfl)
theorem relaxplan_Best_does (t : Tsk) (s : List Int) : Does Tryz.prog false 9 [tskS t, .d (ints s)] (.t [I (beV t s), flt (beE t s)]) := by
 refine Does.of_body Tryz.func9 rfl rfl (by simp) Tryz.call9 (fun w0 O0 => ?_); refine .lg 0 1 fun len0_1 => ?_; refine .lg 0 2 fun len0_2 => ?_; refine .lg 0 3 fun len0_3 => ?_; refine .le 1 fun len1 => ?_; refine .g <| .r <| .bx 2 ?_; refine .a ?_; refine .al 5 zc28 ?_; refine .sq <| .g <| .g <| .r <| .x (.L vs25) ?_; refine .m ?_; refine .x (OpSem.call0 (strips_StateFault_does t s) rfl rfl rfl rfl (Les.refl _)) ?_; refine .al 6 zc28 ?_; refine .sb vs28 ?_; refine .z <| .x (.L vs28) ?_; refine .x (.bd pl28 zc28) ?_; refine .x (OpSem.neS2 rfl rfl rfl io28) ?_; refine .sq <| .cond rfl (fun c26 => ?_) (fun c26 => ?_)
 ·have hne : sttF t s ≠ (0, 0) := fun h => by simp [h] at c26
  refine .g <| PC.start [] ?_; refine .x (.L vs28) ?_; refine .x (OpSem.move (.inr rfl) rfl) ?_; refine .d0 mixed ?_; refine .sb vs28 ?_; exact .sq <| .t <| .t <| .ret rfl (.tmp rfl <| .cellN rfl rfl vs28 <| .nil) rfl (Le.t (.cons (Le.i (be_1 hne).1) <| .cons (Le.flt (be_1 hne).2) <| .nil))
 ·have h0 : sttF t s = (0, 0) := pair0 (by simpa using c26)
  obtain ⟨hV, hS⟩ := sttF_ok h0
  have hs : ∀ p, p ∈ s → 0 ≤ p ∧ p < t.facts := fun p hp => setP_mem hS hp
  have hf0 := hV.facts
  have hol := hV.ops
  refine .p <| .z <| .semM (OpSem.makeMapU 28 rfl) rfl rfl (by decide) ?_; refine .m ?_; refine .x (OpSem.call0 (relaxplan_word_does s (fun p hp => by have := setP_mem hS hp; omega) (setP_len hS hf0.2)) rfl rfl rfl rfl (Les.refl _)) ?_; refine .ofSt0 (OpSt.updU (k := (wdF s)) (.inr rfl) rfl rfl rfl mt66 (by kernel_rfl)) rfl rfl rfl ?_; refine .m ?_; refine .a ?_; refine .z <| .m ?_; refine .x (OpSem.call0 (relaxplan_word_does s (fun p hp => by have := setP_mem hS hp; omega) (setP_len hS hf0.2)) rfl rfl rfl rfl (Les.refl _)) ?_; refine .semM (OpSem.buildS 34 rfl rfl es67 ze67 rfl rfl (by decide) (by decide) rfl rfl) rfl rfl (by decide) ?_; refine .a ?_; refine .sq <| .g <| .g <| .r <| .a ?_; refine .sq <| .k <| .loop (X := Nat) (fun j => (∀ m, m < j → m < (boW t s m).length ∧ (boW t s (m + 1)).length ≤ 2000) ∧ j ≤ (boW t s j).length ∧ (boW t s j).length ≤ 2000) (fun j => [(2, .r 2 0), (5, .r 5 0), (7, .o 28), (8, .o 34), (9, I (j))]) (fun j => [(34, .own 1 64 ((boW t s j).map u32C)), (28, .any (mapU (mp0 (wdF s) (boW t s j)))), (2, .box [I (t.facts), .d (ints t.ini), .d (ints t.goal), .d (sopsD t.ops)]), (5, .box [I (0), I (0)])]) (fun j => 2001 - j) 0 ⟨fun m hm => by omega, by omega, by simp [boW]⟩ ?_ ?_
  ·exact .p3 <| .sl <| .slot rfl (Le.of_eq (by simp)) <| .memEq rfl rfl <| .memEq rfl (by simp [mp0, boW, updU]; rfl) <| .all
  ·rintro j ⟨hB, hjl, hjm⟩
   refine .g <| .g <| .r <| .mm ?_; refine .x (OpSem.leno rfl rfl rfl es67) ?_; refine .x (.b blss) ?_; refine .sq <| .cond rfl (fun c38 => ?_) (fun c38 => ?_)
   ·have hj : j < (boW t s j).length := by simp at c38; omega
    have hBo := (boW_p hV hs (j := j) fun m hm => (hB m hm).1).1
    refine .p <| .g <| .g <| .k <| .g <| .g <| .r <| .x (.f fo25_3) ?_; refine .x (.l vs23) ?_; refine .x (.n es23) ?_; refine .m ?_; refine .sq <| .k <| .loop (X := Nat) (fun i => i ≤ t.ops.length) (fun i => [(2, .r 2 0), (5, .r 5 0), (7, .o 28), (8, .o 34), (9, I (j)), (42, .d (sopsD t.ops)), (43, I (t.ops.length)), (44, I (i))]) (fun i => [(34, .own 1 64 ((biW t (boW t s j) j i).map u32C)), (28, .any (mapU (mp0 (wdF s) (biW t (boW t s j) j i)))), (2, .box [I (t.facts), .d (ints t.ini), .d (ints t.goal), .d (sopsD t.ops)]), (5, .box [I (0), I (0)])]) (fun i => t.ops.length - i) 0 (by omega) ?_ ?_
    ·exact .p5 <| .p2 <| .slot rfl (Le.of_eq (by simp)) <| .memEq rfl rfl <| .memEq rfl rfl <| .all
    ·rintro i hil
     refine .g <| .r <| .x (.b blss) ?_; refine .sq <| .g <| .cond rfl (fun c45 => ?_) (fun c45 => ?_)
     ·have hi : i < t.ops.length := by simpa using c45
      obtain ⟨hb1, hb2, hb3, hb4, hb5⟩ := biW_p hV hBo hj (i := i) (by omega)
      have hbl := hb2.length_le
      have hbm : (nth (biW t (boW t s j) j i) j) ∈ (biW t (boW t s j) j i) := nth_mem (by omega) (by omega)
      have hbt := hb1.lt _ hbm
      have ha1 := wd_lt hV (fun p hp => setP_mem (hV.op i hi).1.2.1 hp)
      have ha2 := wd_lt hV (fun p hp => setP_mem (hV.op i hi).1.1 hp)
      have hnl := nx_lt hV hi hbt
      refine .p <| .g <| .g <| .k <| .g <| .r <| .x (.i es23) ?_; refine .x (.lN vs41) ?_; refine .al 11 zc41 ?_; refine .sb vs41 ?_; refine .sq <| .g <| PC.start [] ?_; refine .mm ?_; refine .x (OpSem.idxo rfl rfl rfl rfl es67 (by omega) (by simp; omega)) ?_; refine .x (OpSem.loadq rfl rfl rfl vs64 (rows_get (f := u32C) (by omega) (by omega)) rfl) ?_; refine .x (.f fo41_1) ?_; refine .x (.l vs22) ?_; refine .x (OpSem.call0 (relaxplan_word_does (nth t.ops i).add (fun p hp => by have := setP_mem (hV.op i hi).1.2.1 hp; omega) (setP_len (hV.op i hi).1.2.1 hf0.2)) rfl rfl rfl rfl (Les.refl _)) ?_; refine .d0 mixed ?_; refine .x (OpSem.bin rfl rfl rfl (bor32 (by omega) (by omega))) ?_; refine .a ?_; refine .sq <| .g <| .g <| PC.start [] ?_; refine .x (.f fo41_0) ?_; refine .x (.l vs22) ?_; refine .x (OpSem.call0 (relaxplan_word_does (nth t.ops i).pre (fun p hp => by have := setP_mem (hV.op i hi).1.1 hp; omega) (setP_len (hV.op i hi).1.1 hf0.2)) rfl rfl rfl rfl (Les.refl _)) ?_; refine .mm ?_; refine .x (OpSem.idxo rfl rfl rfl rfl es67 (by omega) (by simp; omega)) ?_; refine .x (OpSem.loadq rfl rfl rfl vs64 (rows_get (f := u32C) (by omega) (by omega)) rfl) ?_; refine .d0 mixed ?_; refine .x (OpSem.bin rfl rfl rfl (bandn32 (by omega) (by omega))) ?_; refine .x (OpSem.bin rfl rfl rfl (bneqU)) ?_; refine .sq <| .cond rfl (fun c64 => ?_) (fun c64 => ?_)
      ·have hst := bi_n (t := t) (x := boW t s j) (j := j) (i := i) (fun h => by rw [decide_eq_true h] at c64; cases c64)
       refine .u <| .u <| .b <| .y <| .x .ad ?_; refine .m ?_; refine .n <| .again (i + 1) (by omega) ?_ (by omega); exact .p5 <| .p2 <| .slot rfl (Le.of_eq (by simp)) <| .memEq rfl (by rw [hst] <;> rfl) <| .memEq rfl (by rw [hst] <;> rfl) <| .all
      ·have hap : apW t (nth (biW t (boW t s j) j i) j) i := by simpa using c64
       refine .p <| .z <| .mm ?_; refine .x (OpSem.lookupU (k := (nxW t (nth (biW t (boW t s j) j i) j) i)) (l := (mp0 (wdF s) (biW t (boW t s j) j i))) rfl rfl rfl rfl mt66 (by kernel_rfl) zv3) ?_; refine .m ?_; refine .x .xt ?_; refine .x .xt ?_; refine .a ?_; refine .a ?_; refine .z <| .m ?_; refine .x .nt ?_; refine .sq <| .cond rfl (fun c72 => ?_) (fun c72 => ?_)
       ·have hnew : (nxW t (nth (biW t (boW t s j) j i) j) i) ∉ (biW t (boW t s j) j i) := fun h => by rw [look_some, decide_eq_true h] at c72; cases c72
        have hst := bi_a hap hnew
        refine .g <| .r <| .mm ?_; refine .ofSt0 (OpSt.updU (k := (nxW t (nth (biW t (boW t s j) j i) j) i)) (.inl rfl) rfl rfl rfl mt66 (by kernel_rfl)) rfl rfl rfl ?_; refine .y <| .mm ?_; refine .x (.bs es67 ze67) ?_; refine .ap es67 el67 zc64 by64 ?_; refine .a ?_; refine .n <| .n <| .y <| .x .ad ?_; refine .m ?_; refine .n <| .again (i + 1) (by omega) ?_ (by omega); exact .p5 <| .p2 <| .slot rfl (Le.of_eq (by simp)) <| .memEq rfl (by rw [hst]; first | (simp; done) | (simp; rfl)) <| .memEq rfl (by rw [hst, ← mp0_app hb1.w hnew] <;> rfl) <| .all
       ·have hold : (nxW t (nth (biW t (boW t s j) j i) j) i) ∈ (biW t (boW t s j) j i) := by rw [look_some] at c72; simpa using c72
        have hst := bi_o hold
        refine .p <| .n <| .y <| .x .ad ?_; refine .m ?_; refine .n <| .again (i + 1) (by omega) ?_ (by omega); exact .p5 <| .p2 <| .slot rfl (Le.of_eq (by simp)) <| .memEq rfl (by rw [hst] <;> rfl) <| .memEq rfl (by rw [hst] <;> rfl) <| .all
     ·have hi : i = t.ops.length := by simp at c45; omega
      subst hi
      obtain ⟨hb1, hb2, hb3, hb4, hb5⟩ := biW_p hV hBo hj (Nat.le_refl _)
      have hbl := hb2.length_le
      have hbe : (boW t s (j + 1)).length = (biW t (boW t s j) j t.ops.length).length := rfl
      refine .u <| .u <| .u <| .b <| .z <| .m ?_; refine .x (OpSem.leno rfl rfl rfl es67) ?_; refine .x (.b bgtr) ?_; refine .sq <| .cond rfl (fun c82 => ?_) (fun c82 => ?_)
      ·have hno := be_over hB hj (by simp at c82; omega)
       refine .g <| .r <| .x (.bd pl28 zc28) ?_; refine .a ?_; refine .sb vs28 ?_; exact .sq <| .t <| .k <| .t <| .t <| .k <| .t <| .ret rfl (.tmp rfl <| .cellN rfl rfl vs28 <| .nil) rfl (Le.t (.cons (Le.i (be_2 h0 hno).1) <| .cons (Le.flt (be_2 h0 hno).2) <| .nil))
      ·have hle : (boW t s (j + 1)).length ≤ 2000 := by simp at c82; omega
       refine .p <| .n <| .y <| .m ?_; refine .x .ad ?_; refine .a ?_; refine .n <| .again (j + 1) ⟨fun m hm => by by_cases h : m = j; (subst h; exact ⟨hj, hle⟩); exact hB m (by omega), by omega, hle⟩ ?_ (by omega); exact .p3 <| .sl <| .slot rfl (Le.of_eq (by simp)) <| .memEq rfl rfl <| .memEq rfl rfl <| .all
   ·have hJ : BeOk t s j := ⟨by simp at c38; omega, hB⟩
    have hC := cl_ok hV hs hJ
    obtain ⟨hp1, hp2, _⟩ := sortU_perm (boW t s j)
    refine .u <| .u <| .u <| .b <| .z <| .m ?_; refine .ofSt (OpSt.callWS (s := .t []) (sortU_all (boW t s j) (by omega) (fun h => by have := hC.w; rw [h] at this; simp at this) hC.lt) rfl rfl rfl (fun H => rfl) (plain_u32 _) (fun O H w => .t [] [] rfl (fun i x s h => by simp at h))) rfl rfl rfl (by decide) ?_; refine .z <| .a ?_; refine .sq <| .g <| .g <| .r <| .m ?_; refine .x (OpSem.leno rfl rfl rfl es67) ?_; refine .m ?_; refine .sq <| .k <| .loop (X := Nat) (fun k => k ≤ (sortU (boW t s j)).length) (fun k => [(2, .r 2 0), (5, .r 5 0), (7, .o 28), (15, I ((b2T t (mp0 (wdF s) (boW t s j)) (sortU (boW t s j)) k).2)), (86, .o 34), (87, I (((sortU (boW t s j)).length : Int))), (88, I (k))]) (fun k => [(34, .own 1 64 ((sortU (boW t s j)).map u32C)), (28, .any (mapU ((b2T t (mp0 (wdF s) (boW t s j)) (sortU (boW t s j)) k).1))), (2, .box [I (t.facts), .d (ints t.ini), .d (ints t.goal), .d (sopsD t.ops)]), (5, .box [I (0), I (0)])]) (fun k => (sortU (boW t s j)).length - k) 0 (by omega) ?_ ?_
    ·exact .p3 <| .slot rfl (Le.of_eq rfl) <| .sl <| .slot rfl (Le.i (by simp)) <| .slot rfl (Le.of_eq (by simp)) <| .memEq rfl rfl <| .memEq rfl rfl <| .all
    ·rintro k hkl
     refine .g <| .r <| .x (.b blss) ?_; refine .sq <| .g <| .cond rfl (fun c89 => ?_) (fun c89 => ?_)
     ·have hk : k < (sortU (boW t s j)).length := by simp at c89; omega
      have hLm : (nth (sortU (boW t s j)) k) ∈ (boW t s j) := sortU_mem.1 (nth_mem (l := (sortU (boW t s j))) (n := (k : Int)) (by omega) (by omega))
      have hLt := hC.lt _ hLm
      have hgl := wd_lt hV (fun p hp => setP_mem hV.goal hp)
      have hP := (b2T_p hV hC (fun w => sortU_mem.1) (mp0_p (S := (boW t s j)) hs) (k := k) (by omega)).1
      have hgr := hP.rng hLm
      refine .p <| .g <| .g <| .k <| .g <| .r <| .x (OpSem.idxo rfl rfl rfl rfl es67 (by omega) (by simp; omega)) ?_; refine .x (OpSem.loadq rfl rfl rfl vs64 (rows_get (f := u32C) (by omega) (by omega)) rfl) ?_; refine .a ?_; refine .sq <| .cut [(2, .r 2 0), (5, .r 5 0), (7, .o 28), (15, I ((b2T t (mp0 (wdF s) (boW t s j)) (sortU (boW t s j)) (k + 1)).2)), (17, .d (.v (.int .u32 ((((nth (sortU (boW t s j)) k) : Nat) : Int))))), (86, .o 34), (87, I (((sortU (boW t s j)).length : Int))), (88, I (k))] [(2, .box [I (t.facts), .d (ints t.ini), .d (ints t.goal), .d (sopsD t.ops)]), (5, .box [I (0), I (0)]), (34, .own 1 64 ((sortU (boW t s j)).map u32C)), (28, .any (mapU ((b2T t (mp0 (wdF s) (boW t s j)) (sortU (boW t s j)) k).1)))] ?_ ?_
      ·refine .g <| .r <| .x (.f fo25_2) ?_; refine .x (.l vs22) ?_; refine .x (OpSem.call0 (relaxplan_word_does t.goal (fun p hp => by have := setP_mem hV.goal hp; omega) (setP_len hV.goal hf0.2)) rfl rfl rfl rfl (Les.refl _)) ?_; refine .m ?_; refine .x (OpSem.bin rfl rfl rfl (bandn32 (by omega) (by omega))) ?_; refine .x (OpSem.bin rfl rfl rfl (beqlU)) ?_; refine .sq <| .cond rfl (fun c97 => ?_) (fun c97 => ?_)
       ·have hg : wnot (wdF t.goal) (nth (sortU (boW t s j)) k) = 0 := of_decide_eq_true c97
        refine .r <| .mm ?_; refine .m ?_; refine .x (OpSem.lookupU (k := (nth (sortU (boW t s j)) k)) (l := (b2T t (mp0 (wdF s) (boW t s j)) (sortU (boW t s j)) k).1) rfl rfl rfl rfl mt66 (by kernel_rfl) zv3) ?_; refine .x (OpSem.min2 rfl rfl rfl) ?_; refine .a ?_; exact .n <| .meet <| .p3 <| .slot rfl (Le.i (by show _ = if _ then _ else _; rw [if_pos hg])) <| .all
       ·have hg : ¬ wnot (wdF t.goal) (nth (sortU (boW t s j)) k) = 0 := of_decide_eq_false c97
        exact .p <| .meet <| .p3 <| .slot rfl (Le.i (by show _ = if _ then _ else _; rw [if_neg hg])) <| .all
      ·refine .g <| .r <| .x (.f fo25_3) ?_; refine .x (.l vs23) ?_; refine .x (.n es23) ?_; refine .m ?_; refine .sq <| .k <| .loop (X := Nat) (fun i => i ≤ t.ops.length) (fun i => [(2, .r 2 0), (5, .r 5 0), (7, .o 28), (15, I ((b2T t (mp0 (wdF s) (boW t s j)) (sortU (boW t s j)) (k + 1)).2)), (17, .d (.v (.int .u32 ((((nth (sortU (boW t s j)) k) : Nat) : Int))))), (86, .o 34), (87, I (((sortU (boW t s j)).length : Int))), (88, I (k)), (104, .d (sopsD t.ops)), (105, I (t.ops.length)), (106, I (i))]) (fun i => [(34, .own 1 64 ((sortU (boW t s j)).map u32C)), (28, .any (mapU (b2O t (nth (sortU (boW t s j)) k) (b2T t (mp0 (wdF s) (boW t s j)) (sortU (boW t s j)) k).1 i))), (2, .box [I (t.facts), .d (ints t.ini), .d (ints t.goal), .d (sopsD t.ops)]), (5, .box [I (0), I (0)])]) (fun i => t.ops.length - i) 0 (by omega) ?_ ?_
       ·exact .p5 <| .p5 <| .slot rfl (Le.of_eq (by simp)) <| .memEq rfl rfl <| .memEq rfl rfl <| .all
       ·rintro i hil
        refine .g <| .r <| .x (.b blss) ?_; refine .sq <| .g <| .cond rfl (fun c107 => ?_) (fun c107 => ?_)
        ·have hi : i < t.ops.length := by simpa using c107
         have hPi := (b2O_p hV hC hLm hP (i := i) (by omega)).1
         have hri := hPi.rng hLm
         have hcs := (hV.op i hi).2
         have ha1 := wd_lt hV (fun p hp => setP_mem (hV.op i hi).1.2.1 hp)
         have ha2 := wd_lt hV (fun p hp => setP_mem (hV.op i hi).1.1 hp)
         refine .p <| .g <| .g <| .k <| .g <| .r <| .x (.i es23) ?_; refine .x (.lN vs41) ?_; refine .al 19 zc41 ?_; refine .sb vs41 ?_; refine .z <| .x (.f fo41_0) ?_; refine .x (.l vs22) ?_; refine .x (OpSem.call0 (relaxplan_word_does (nth t.ops i).pre (fun p hp => by have := setP_mem (hV.op i hi).1.1 hp; omega) (setP_len (hV.op i hi).1.1 hf0.2)) rfl rfl rfl rfl (Les.refl _)) ?_; refine .m ?_; refine .x (OpSem.bin rfl rfl rfl (bandn32 (by omega) (by omega))) ?_; refine .x (OpSem.bin rfl rfl rfl (beqlU)) ?_; refine .sq <| .cond rfl (fun c115 => ?_) (fun c115 => ?_)
         ·have hap : apW t (nth (sortU (boW t s j)) k) i := of_decide_eq_true c115
          have hst : b2O t (nth (sortU (boW t s j)) k) (b2T t (mp0 (wdF s) (boW t s j)) (sortU (boW t s j)) k).1 (i + 1) = updU (b2O t (nth (sortU (boW t s j)) k) (b2T t (mp0 (wdF s) (boW t s j)) (sortU (boW t s j)) k).1 i) (nxW t (nth (sortU (boW t s j)) k) i) (min (getU (b2O t (nth (sortU (boW t s j)) k) (b2T t (mp0 (wdF s) (boW t s j)) (sortU (boW t s j)) k).1 i) (nxW t (nth (sortU (boW t s j)) k) i)) (getU (b2O t (nth (sortU (boW t s j)) k) (b2T t (mp0 (wdF s) (boW t s j)) (sortU (boW t s j)) k).1 i) (nth (sortU (boW t s j)) k) + (nth t.ops i).cost)) := by simp only [b2O]; rw [if_pos hap]
          refine .g <| .r <| .m ?_; refine .x (.f fo41_1) ?_; refine .x (.l vs22) ?_; refine .x (OpSem.call0 (relaxplan_word_does (nth t.ops i).add (fun p hp => by have := setP_mem (hV.op i hi).1.2.1 hp; omega) (setP_len (hV.op i hi).1.2.1 hf0.2)) rfl rfl rfl rfl (Les.refl _)) ?_; refine .x (OpSem.bin rfl rfl rfl (bor32 (by omega) (by omega))) ?_; refine .a ?_; refine .y <| .mm ?_; refine .mm ?_; refine .x (OpSem.lookupU (k := (nxW t (nth (sortU (boW t s j)) k) i)) (l := (b2O t (nth (sortU (boW t s j)) k) (b2T t (mp0 (wdF s) (boW t s j)) (sortU (boW t s j)) k).1 i)) rfl rfl rfl rfl mt66 (by kernel_rfl) zv3) ?_; refine .mm ?_; refine .x (OpSem.lookupU (k := (nth (sortU (boW t s j)) k)) (l := (b2O t (nth (sortU (boW t s j)) k) (b2T t (mp0 (wdF s) (boW t s j)) (sortU (boW t s j)) k).1 i)) rfl rfl rfl rfl mt66 (by kernel_rfl) zv3) ?_; refine .x (.f fo41_3) ?_; refine .x (.l vs3) ?_; refine .x .ad ?_; refine .x (OpSem.min2 rfl rfl rfl) ?_; refine .ofSt0 (OpSt.updU (k := (nxW t (nth (sortU (boW t s j)) k) i)) (.inl rfl) rfl rfl rfl mt66 (by kernel_rfl)) rfl rfl rfl ?_; refine .n <| .n <| .y <| .x .ad ?_; refine .m ?_; refine .n <| .again (i + 1) (by omega) ?_ (by omega); exact .p5 <| .p5 <| .slot rfl (Le.of_eq (by simp)) <| .mem rfl <| .memEq rfl (by rw [hst] <;> rfl) <| .all
         ·have hst : b2O t (nth (sortU (boW t s j)) k) (b2T t (mp0 (wdF s) (boW t s j)) (sortU (boW t s j)) k).1 (i + 1) = (b2O t (nth (sortU (boW t s j)) k) (b2T t (mp0 (wdF s) (boW t s j)) (sortU (boW t s j)) k).1 i) := by simp only [b2O]; rw [if_neg (of_decide_eq_false c115)]
          refine .p <| .n <| .y <| .x .ad ?_; refine .m ?_; refine .n <| .again (i + 1) (by omega) ?_ (by omega); exact .p5 <| .p5 <| .slot rfl (Le.of_eq (by simp)) <| .mem rfl <| .memEq rfl (by rw [hst] <;> rfl) <| .all
        ·have hi : i = t.ops.length := by simp at c107; omega
         subst hi
         refine .u <| .u <| .u <| .b <| .n <| .y <| .x .ad ?_; refine .m ?_; refine .n <| .again (k + 1) (by omega) ?_ (by omega); exact .p5 <| .sl <| .slot rfl (Le.of_eq (by simp)) <| .memEq rfl rfl <| .memEq rfl rfl <| .all
     ·have hk : k = (sortU (boW t s j)).length := by simp at c89; omega
      subst hk
      refine .u <| .u <| .u <| .b <| .z <| .m ?_; refine .x (.bd pl28 zc28) ?_; refine .a ?_; refine .sb vs28 ?_; exact .sq <| .t <| .ret rfl (.tmp rfl <| .cellN rfl rfl vs28 <| .nil) rfl (Le.t (.cons (Le.i (be_0 h0 hJ).1) <| .cons (Le.flt (be_0 h0 hJ).2) <| .nil))
end Go.Proofs.YthjmgcopfipabaaGreat
end

section
namespace Go.Eng
open Go.RowKit (Below)
def datS (v : Value) (s : S) : Kr := {
 q O w _ := ∀ H, RepS O H w v s
 mono := fun O w O' w' x hk h H => (h H).keeps hk }
def anyH : S → Bool
 | .d _ | .p _ => true
 | _ => false
theorem anyH_rep {O : Nat → Nat} {H H' : Nat → Value} {w : World} {v : Value} {s : S} (hs : anyH s = true) (h : RepS O H w v s) : RepS O H' w v s := by
 cases h <;> first | (simp [anyH] at hs; done) | skip
 case d y h => exact .d _ _ h
 case p b off cs y hO hy hr => exact .p b off cs y hO hy hr
structure DoesQ (P : Program) (f : Nat) (args : List Value) (v1 : Value) (s1 : S) (v2 : Value) (s2 : S) (F : PF) (R : PF → Prop) : Prop where
 can : ∀ xs w, (callFunc f xs).run P w = .ok (.enter f xs) w
 live : ∀ F', R F' → ∃ b, F b ≠ none ∧ F' b ≠ none
 run : ∀ (O : Nat → Nat) (w : World), Pins F w → (∀ b, F b ≠ none → O b ≠ 0) → (∀ H, RepS O H w v1 s1) → (∀ H, RepS O H w v2 s2) → Calls P f args.toArray w fun en w' =>
  en = .returned (.tuple #[]) ∧ ∃ F', R F' ∧ (w'.os = w.os ∧ w'.tape = w.tape ∧ w'.output = w.output) ∧ (∀ b, b < w.heap.size → F b = none → w'.heap[b]? = w.heap[b]? ∧ F' b = none) ∧ Pins F' w'
def RetQ (Oc : Nat → Nat) (W : World) (R : PF → Prop) : Ending → World → Prop :=
 fun en w' => en = .returned (.tuple #[]) ∧ ∃ F' O', R F' ∧ (w'.os = W.os ∧ w'.tape = W.tape ∧ w'.output = W.output) ∧ Pins F' w' ∧ Keeps Oc W O' w' ∧ ∀ b, F' b ≠ none → O' b = 1
theorem pf_ne {F : PF} {b : Nat} (h : F b ≠ none) : ∃ T l, F b = some (T, l) := by
 cases hF : F b with
 | none => exact absurd hF h
 | some p => exact ⟨p.1, p.2, rfl⟩
section
variable {P : Program} {N : Nat} {w0 : World} {O0 : Nat → Nat} {ops : Array Oper} {Q : Post} {e : Env} {M : Mem} {rest : List Oper} {o : Oper} {s : S} {B : Nat} {c : Code}
theorem DoesQ.of_body {f : Nat} {args : List Value} {v1 v2 : Value} {s1 s2 : S} {F : PF} {R : PF → Prop} {fn : Func} {c : Code} (hf : P.funcs[f]? = some fn) (hb : fn.body = some c) (hN : fn.ntmps = N) (hlen : args.length ≤ N)
  (can : ∀ xs w, (callFunc f xs).run P w = .ok (.enter f xs) w) (live : ∀ F', R F' → ∃ b, F b ≠ none ∧ F' b ≠ none)
  (h : ∀ (O0 : Nat → Nat) (Oc : Nat → Nat) (W : World), Tr P N { W with heap := #[] } O0 (entry 0 (args.map fun v => S.d (.v v))) [(0, .any (pinK F)), (1000, .fr (frK Oc W)), (1001, .fr (datS v1 s1)), (1002, .fr (datS v2 s2))] c (bodyPost P fn (RetQ Oc W R))) : DoesQ P f args v1 s1 v2 s2 F R := by
 refine ⟨can, live, fun O w hv hO h1 h2 => ?_⟩
 obtain ⟨Oc, hOc⟩ : ∃ Oc : Nat → Nat, Oc = fun b => if (F b).isSome then 1 else 0 := ⟨_, rfl⟩
 have hk : Keeps O w Oc w := fun b _ h0 => ⟨by
  rw [hOc]; simp only []
  rw [if_neg (fun hs => hO b (by intro e; rw [e] at hs; cases hs) h0)], rfl⟩
 refine (calls_of_wp hf hb (h Oc Oc w Oc (fun _ => undef) _ w ⟨rfl, ?_, ⟨rfl, rfl, rfl, Nat.zero_le _, fun k hk => absurd hk (Nat.not_lt_zero k)⟩, fun b hb => absurd hb (Nat.not_lt_zero b), fun n s hs => ?_, fun n m hm => ?_⟩)).mono ?_
 ·simp; omega
 ·obtain ⟨_, hn⟩ := look_entry _ 0 n s hs
  simp only [Nat.sub_zero, List.getElem?_map, Option.map_eq_some_iff] at hn
  obtain ⟨v, hn, rfl⟩ := hn
  refine ⟨v, ?_, .d _ _ (.v _)⟩
  have hlt := (List.getElem?_eq_some_iff.1 hn).1
  rw [Array.getElem?_append_left (by simpa using hlt)]
  simpa using hn
 ·rcases look_cons hm with ⟨rfl, rfl⟩ | ⟨_, hm⟩
  ·intro b T l hF
   exact ⟨Nat.zero_le _, by rw [hOc]; simp [hF], hv b T l hF⟩
  ·rcases look_cons hm with ⟨rfl, rfl⟩ | ⟨_, hm⟩
   ·exact fun b _ h => ⟨h, rfl⟩
   ·rcases look_cons hm with ⟨rfl, rfl⟩ | ⟨_, hm⟩
    ·exact fun H => (h1 H).keeps hk
    ·rcases look_cons hm with ⟨rfl, rfl⟩ | ⟨_, hm⟩
     ·exact fun H => (h2 H).keeps hk
     ·cases hm
 ·rintro en w' ⟨rfl, F', O', hR, hw, hp, hk', hl⟩
  refine ⟨rfl, F', hR, hw, fun b hb hn => ?_, hp⟩
  obtain ⟨q1, q2⟩ := hk' b hb (by rw [hOc]; simp [hn])
  exact ⟨q2, Classical.byContradiction fun hne => by have := hl b hne; omega⟩
theorem At.retQ {Oc : Nat → Nat} {W : World} {F : PF} {R : PF → Prop} {fn : Func} {x : Exit} (hx : x = .ret ∨ x = .normal) (hres : fn.results.toList = []) (hM : look M 0 = some (.any (pinK F))) (hK : look M 1000 = some (.fr (frK Oc W))) (hr : R F) :
  At N { W with heap := #[] } O0 e M x (bodyPost P fn (RetQ Oc W R)) := by
 intro O H a w hst
 have hrun : (results fn a.tmps).run P w = .ok (.tuple #[]) w := by
  rw [results_rv, Array.mapM_eq_mapM_toList, hres]
  simp [Sem.run_bind, Sem.run_map, Result.andThen_ok, Sem.run_pure]
 have hm := hst.mem 0 _ hM
 have key : a.defers = [] ∧ ∃ v, (results fn a.tmps).run P w = .ok v w ∧ RetQ Oc W R (.returned v) w :=
  ⟨hst.df, _, hrun, rfl, F, O, hr, ⟨hst.bl.os, hst.bl.tape, hst.bl.output⟩, fun b T l hF => (hm b T l hF).2.2, hst.mem 1000 _ hK, fun b hb => by
   obtain ⟨T, l, hF⟩ := pf_ne hb
   have := (hm b T l hF).2.1; omega⟩
 rcases hx with rfl | rfl <;> exact key
theorem TrOps.callQ {h k1 k2 d fn : Nat} {g : Operand} {as_ : Array Operand} {ts : Array TypeId} {caps args : List Value} {v1 v2 : Value} {s1 s2 : S} {F : PF} {R : PF → Prop} {l : List S} (hspec : DoesQ P fn (args ++ caps) v1 s1 v2 s2 F R)
  (ho : o.op = .call { callee := .value g, args := as_, argTypes := ts }) (hgd : o.guard = none) (hd : o.dst = some d) (hdN : d < N) (hg : opS e g = some (.d (.v (.func (.func fn) #[] caps.toArray)))) (ha : opsS e as_.toList = some l) (hv : ∀ H, l.mapM (valS H 9) = some args)
  (hM : look M h = some (.any (pinK F))) (h1 : look M k1 = some (.fr (datS v1 s1))) (h2 : look M k2 = some (.fr (datS v2 s2)))
  (hn : ∀ F', R F' → TrOps P N w0 O0 ops Q ((d, .u) :: e) ((h, .any (pinK F')) :: M) rest) : TrOps P N w0 O0 ops Q e M (o :: rest) := by
 intro O H a w hst
 have hm := hst.mem h _ hM
 refine wpList_plain hgd fun K hK => Oper.wp_false ?_ Q
 have hg' := rep_v (hst.slotsAt #[g] g (by simp) _ hg)
 have hargs := argsEq (a := a) (O := O) (H := H) (w := w) (as_ := as_) (fun x hx s hs' => hst.slotsAt as_ x hx s hs') ha (hv H)
 have hrun := run_call (o := o) (xs := []) hspec.can a w g as_ ts ho (by rw [hg']) hargs
 unfold Oper.wp
 rw [hrun]
 refine (hspec.run O w (fun b T l hF => (hm b T l hF).2.2) (fun b hb => by
  obtain ⟨T, l, hF⟩ := pf_ne hb
  have := (hm b T l hF).2.1; omega) (hst.mem k1 _ h1) (hst.mem k2 _ h2)).mono ?_
 rintro en w' ⟨rfl, F', hR, ⟨hos, htp, hout⟩, hsame, hp⟩
 have hdom : ∀ b, F b ≠ none → w0.heap.size ≤ b ∧ O b = h + 1 := fun b hb => by
  obtain ⟨T, l, hF⟩ := pf_ne hb
  exact ⟨(hm b T l hF).1, (hm b T l hF).2.1⟩
 have hdom' : ∀ b, F' b ≠ none → (F b ≠ none ∨ w.heap.size ≤ b) := fun b hb => by
  by_cases hlt : b < w.heap.size
  ·exact .inl fun hn => hb (hsame b hlt hn).2
  ·exact .inr (by omega)
 obtain ⟨O', hO'⟩ : ∃ O' : Nat → Nat, O' = fun b => if F' b ≠ none then h + 1 else O b := ⟨_, rfl⟩
 have hlab : ∀ b, b < w.heap.size → O' b = O b := fun b hb => by
  rw [hO']; simp only []
  split
  ·rename_i hF'
   rcases hdom' b hF' with h3 | h3
   ·exact (hdom b h3).2.symm
   ·omega
  ·rfl
 have hk : Keep (some h) none O H w O' H w' := ⟨hlab, fun b hb hne => (hsame b hb (Classical.byContradiction fun hF => hne h rfl (hdom b hF).2)).1, fun _ _ => rfl⟩
 have hsz := hst.size
 have hsz' : w0.heap.size ≤ w'.heap.size := by
  obtain ⟨b, hb, hb'⟩ := hspec.live F' hR
  obtain ⟨T, l, hF'⟩ := pf_ne hb'
  have q1 := (hdom b hb).1
  have q2 := (Array.getElem?_eq_some_iff.1 (hp b T l hF')).1
  omega
 have hbl : Below w0.heap.size w0 w' := ⟨hos.trans hst.bl.os, htp.trans hst.bl.tape, hout.trans hst.bl.output, hsz', fun b hb => ((hsame b (by omega) (Classical.byContradiction fun hF => by have := (hdom b hF).1; omega)).1).trans (hst.bl.block b hb)⟩
 refine hK _ _ (hn F' hR O' H _ _ ⟨?_, ?_, hbl, fun b hb => (hlab b (by omega)).trans (hst.lab b hb), ?_, fun n m hm' => ?_⟩)
 ·rw [hd]; exact hst.df
 ·rw [hd]; simp [Act.put, hst.sz]
 ·rw [hd]
  exact put_slots hst.sz hdN (.u _) fun n s hs => by
   obtain ⟨y, hy, hr⟩ := hst.slots n s hs
   exact ⟨y, hy, hr.mono0 hk⟩
 ·rcases look_cons hm' with ⟨rfl, rfl⟩ | ⟨hne, hm'⟩
  ·intro b T l hF
   have hb' : F' b ≠ none := by rw [hF]; simp
   refine ⟨?_, by rw [hO']; simp [hb'], hp b T l hF⟩
   rcases hdom' b hb' with h3 | h3
   ·exact (hdom b h3).1
   ·omega
  ·exact (hst.mem n m hm').mono hk (by intro e; cases e; exact hne rfl) (by simp) 0 (fun h he => by cases he) (.inl rfl)
theorem OpSem.loadd {t : TypeId} {x : Operand} {b off T h k : Nat} {F : PF} {l : List Value} {v : Value} {dd : D} (ho : o.op = .load t x) (hx : opS e x = some (.d (.v (ptr b off)))) (hM : look M h = some (.any (pinK F))) (hK : look M k = some (.fr (datS v (.d dd)))) (ht : vsz P t = some (false, 1))
  (hF : F b = some (T, l)) (hv : l[off]? = some v) : OpSem P B o e M (.d dd) none :=
 .value fun O H a w hs hm => by
  have hr := rep_v (hs x (by simp [ho, Op.operands]) _ hx)
  obtain ⟨_, _, hb⟩ := hm h _ hM b T l hF
  exact ⟨v, by simp [execOp, ho, Instr.loadAt, Instr.sureAddr, hr, run_loadVar1 ht (cellOf hb (by simpa using hv))], hm k _ hK H⟩
theorem OpSem.mkFv {fn : Nat} {ys : Array Operand} {cs : List S} {vs : List Value} (ho : o.op = .makeFunc (.func fn) #[] ys) (hy : opsS e ys.toList = some cs) (hv : ∀ H, cs.mapM (valS H 9) = some vs) : OpSem P B o e M (.d (.v (.func (.func fn) #[] vs.toArray))) none :=
 .value fun O H a w hs _ => by
  have he := argsEq (a := a) (O := O) (H := H) (w := w) (as_ := ys) (fun x hx s hs' => hs x (by simp only [ho, Op.operands]; simpa using hx) s hs') hy (hv H)
  refine ⟨.func (.func fn) #[] vs.toArray, ?_, .d _ _ (.v _)⟩
  have h2 : ys.map a.eval = vs.toArray := by rw [← he]; apply Array.ext'; simp
  simp [execOp, ho, Instr.makeFunc, h2]
theorem Tr.toDat (n k : Nat) {v : Value} {s : S} (hn : look e n = some (.d (.v v))) (hM : look M k = some (.fr (datS v s))) (hc : Tr P N w0 O0 ((n, s) :: e) M c Q) : Tr P N w0 O0 e M c Q := by
 intro O H a w hst
 refine hc O H a w ⟨hst.df, hst.sz, hst.bl, hst.lab, fun m s' hs => ?_, hst.mem⟩
 rcases look_cons hs with ⟨rfl, rfl⟩ | ⟨_, hs⟩
 ·obtain ⟨x, hx, hr⟩ := hst.slots _ _ hn
  exact ⟨x, hx, by rw [rep_v hr]; exact hst.mem k _ hM H⟩
 ·exact hst.slots m s' hs
theorem Tr.rawS (n k : Nat) {s : S} (hn : look e n = some s) (hs : anyH s = true) (hc : ∀ v : Value, Tr P N w0 O0 ((n, .d (.v v)) :: e) ((k, .fr (datS v s)) :: M) c Q) : Tr P N w0 O0 e M c Q := by
 intro O H a w hst
 obtain ⟨x, hx, hr⟩ := hst.slots _ _ hn
 refine hc x O H a w ⟨hst.df, hst.sz, hst.bl, hst.lab, fun m s' hs' => ?_, fun m mo hm => ?_⟩
 ·rcases look_cons hs' with ⟨rfl, rfl⟩ | ⟨_, hs'⟩
  ·exact ⟨x, hx, .d _ _ (.v _)⟩
  ·exact hst.slots m s' hs'
 ·rcases look_cons hm with ⟨rfl, rfl⟩ | ⟨_, hm⟩
  ·exact fun H' => anyH_rep hs hr
  ·exact hst.mem m mo hm
theorem Tr.rawBox (h k : Nat) {s : S} (hM : look M h = some (.box [s])) (hs : anyH s = true) (hc : ∀ v : Value, Tr P N w0 O0 e ((h, .box [.d (.v v)]) :: (k, .fr (datS v s)) :: M) c Q) : Tr P N w0 O0 e M c Q := by
 intro O H a w hst
 obtain ⟨b, xs, T, hH, hB, hO, hb, hsz, hcc⟩ := hst.mem h _ hM
 obtain ⟨x, hx, hr, h1⟩ := hcc 0 s rfl
 refine hc x O H a w ⟨hst.df, hst.sz, hst.bl, hst.lab, hst.slots, fun m mo hm => ?_⟩
 rcases look_cons hm with ⟨rfl, rfl⟩ | ⟨_, hm⟩
 ·refine ⟨b, xs, T, hH, hB, hO, hb, hsz, fun i s' hi => ?_⟩
  have : i = 0 := by have := (List.getElem?_eq_some_iff.1 hi).1; simp at this; exact this
  subst this
  simp only [List.getElem?_cons_zero, Option.some.injEq] at hi
  subst hi
  exact ⟨x, hx, .d _ _ (.v _), h1⟩
 ·rcases look_cons hm with ⟨rfl, rfl⟩ | ⟨_, hm⟩
  ·exact fun H' => anyH_rep hs hr
  ·exact hst.mem m mo hm
theorem TrOps.freezeP (h n : Nat) {F : PF} {v : Value} {s : S} (hM : look M h = some (.any (pinK F))) (hn : look e n = some (.d (.v v)))
  (hr : ∀ (O : Nat → Nat) (w : World), (∀ b T l, F b = some (T, l) → O b = 0 ∧ w.heap[b]? = some (.cells l.toArray T (0, 0))) → ∀ H, RepS O H w v s)
  (hc : TrOps P N w0 O0 ops Q ((n, s) :: e) ((h, .gone) :: M) rest) : TrOps P N w0 O0 ops Q e M rest := by
 intro O H a w hst
 have hm := hst.mem h _ hM
 obtain ⟨O', hO'⟩ : ∃ O' : Nat → Nat, O' = fun b => if (F b).isSome then 0 else O b := ⟨_, rfl⟩
 have hk : Keeps O w O' w := fun b _ h0 => ⟨by rw [hO']; simp only []; split; rfl; exact h0, rfl⟩
 have hin : ∀ b, (F b).isSome = true → w0.heap.size ≤ b ∧ O b = h + 1 := fun b hb => by
  obtain ⟨p, hp⟩ := Option.isSome_iff_exists.1 hb
  obtain ⟨g1, g2, _⟩ := hm b p.1 p.2 hp
  exact ⟨g1, g2⟩
 refine hc O' H a w ⟨hst.df, hst.sz, hst.bl, fun b hb => ?_, fun m t hs => ?_, fun m mo hmo => ?_⟩
 ·rw [hO']; simp only []; rw [if_neg (fun hs => by have := (hin b hs).1; omega)]; exact hst.lab b hb
 ·rcases look_cons hs with ⟨rfl, rfl⟩ | ⟨_, hs⟩
  ·obtain ⟨x, hx, hxr⟩ := hst.slots _ _ hn
   refine ⟨x, hx, ?_⟩
   rw [rep_v hxr]
   exact hr O' w (fun b T l hF => ⟨by rw [hO']; simp [hF], (hm b T l hF).2.2⟩) H
  ·obtain ⟨x, hx, hxr⟩ := hst.slots m t hs
   exact ⟨x, hx, hxr.keeps hk⟩
 ·rcases look_cons hmo with ⟨rfl, rfl⟩ | ⟨hne, hmo⟩
  ·trivial
  ·exact (hst.mem m mo hmo).relab hk fun b hb => by rw [hO']; simp only []; rw [if_neg (fun hs => by have := (hin b hs).2; omega)]; exact hb
abbrev Plc := Option (Nat × Nat × List Value)
def delF (F : PF) (p : Plc) : PF := fun c => if p.map (·.1) = some c then none else F c
def plcV (p : Plc) (n : Nat) : Value := match p with
 | none => .slice none 0 0
 | some (b, cap, _) => slc b n cap
structure PlcOk (p : Plc) (l : List Value) (T : Nat) (F : PF) : Prop where
 n : p = none → l = []
 s : ∀ b cap tl, p = some (b, cap, tl) → F b = some (T, l ++ tl) ∧ (l ++ tl).length = cap ∧ cap ≤ maxLen
theorem TrOps.appendP {x y : Operand} {t h T d by_ : Nat} {F : PF} {p : Plc} {l : List Value} {v : Value} {zs : List Value} (ho : o.op = .call { callee := .builtin .append, args := #[x, y], argTypes := #[t, t] }) (hg : o.guard = none) (hd : o.dst = some d) (hdN : d < N)
  (hx : opS e x = some (.d (.v (plcV p l.length)))) (hM : look M h = some (.any (pinK F))) (hy : opS e y = some (.d (.s 1 [[.v v]]))) (hk : esz P t = some 1) (hT : P.elem t = T) (hz : zcells P T = some zs) (hzk : zs.length = 1) (hby : P.bytesOf T = by_)
  (hone : ∀ u, u ∈ l → u.oneCell' = true) (h1 : v.oneCell' = true) (hlen : (l.length + 1) ≤ maxLen) (hroom : (l.length + 1) * by_ ≤ 140737488355328) (hok : PlcOk p l T F)
  (hn : ∀ (b cap : Nat) (tl : List Value), (F b = none ∨ p.map (·.1) = some b) → (l ++ [v] ++ tl).length = cap → cap ≤ maxLen → TrOps P N w0 O0 ops Q ((d, .d (.v (slc b (l.length + 1) cap))) :: e) ((h, .any (pinK (updF (delF F p) b T (l ++ [v] ++ tl)))) :: M) rest) : TrOps P N w0 O0 ops Q e M (o :: rest) := by
 intro O H a w hst
 have hsz := hst.size
 have hm := hst.mem h _ hM
 have hxa := rep_v (hst.slotsAt #[x] x (by simp) _ hx)
 have hv := hst.slotsAt #[y] y (by simp) _ hy
 generalize hya : a.eval y = ya at hv
 cases hv with
 | d _ _ hv =>
 have hpl : ∀ c, p.map (·.1) = some c → ∃ cap tl, p = some (c, cap, tl) := fun c hc => by
  obtain ⟨q, rfl, rfl⟩ := Option.map_eq_some_iff.1 hc
  exact ⟨q.2.1, q.2.2, rfl⟩
 have hpc : ∀ c, p.map (·.1) = some c → w0.heap.size ≤ c ∧ O c = h + 1 ∧ c < w.heap.size := fun c hc => by
  obtain ⟨cap, tl, e⟩ := hpl c hc
  obtain ⟨q1, q2, q3⟩ := hm c _ _ (hok.s c cap tl e).1
  exact ⟨q1, q2, (Array.getElem?_eq_some_iff.1 q3).1⟩
 obtain ⟨O1, hO1⟩ : ∃ O1 : Nat → Nat, O1 = fun c => if p.map (·.1) = some c then h + 1 else 0 := ⟨_, rfl⟩
 have hk1 : Keeps O w O1 w := fun c _ h0 => ⟨by
  rw [hO1]; simp only []
  rw [if_neg (fun hc => by have := (hpc c hc).2.1; omega)], rfl⟩
 have hm1 : MHold O1 (fun _ => plcV p l.length) 0 w h (.own 1 T (l.map fun v => [D.v v])) := by
  cases hp : p with
  | none => exact .inl ⟨rfl, by rw [hok.n hp]; rfl⟩
  | some q =>
   obtain ⟨c, cap, tl⟩ := q
   obtain ⟨f1, f2, f3⟩ := hok.s c cap tl hp
   obtain ⟨q1, q2, q3⟩ := hm c _ _ f1
   refine .inr ⟨c, cap, (l ++ tl).toArray, by simp [plcV], Nat.zero_le _, by rw [hO1]; simp [hp], q3, by simp at f2 ⊢; omega, f3, by simp at f2 ⊢; omega, fun r hr => ?_, fun i r j dd hi hj => ?_⟩
   ·obtain ⟨u, _, rfl⟩ := List.mem_map.1 hr; rfl
   ·rw [List.getElem?_map, Option.map_eq_some_iff] at hi
    obtain ⟨u, hu, rfl⟩ := hi
    obtain rfl : j = 0 := by have := (List.getElem?_eq_some_iff.1 hj).1; simp at this; exact this
    simp only [List.getElem?_cons_zero, Option.some.injEq] at hj
    subst hj
    have hlt := (List.getElem?_eq_some_iff.1 hu).1
    refine ⟨u, ?_, .v _, hone u (List.mem_of_getElem? hu)⟩
    have e1 : i * 1 + 0 = i := by omega
    rw [e1, List.getElem?_toArray, List.getElem?_append_left hlt]; exact hu
 have hD1 : D.one (.v v) = true := h1
 obtain ⟨x', w', O2, H2, hrun, hkeep, hbel, hH', ho1, hm'⟩ := run_append (ty := o.type) hk hT hz hzk hby hm1 (hv.mono hk1) (by intro r hr; simp at hr; subst hr; simp [hD1]) (Nat.zero_le _) (by simpa using hlen) (by simpa using hroom)
 rcases hm' with ⟨_, hnil⟩ | ⟨b, cap, xs, hHb, _, hOb, hb, hlc, hcm, hxsz, _, hcc⟩
 ·simp at hnil
 simp only [List.length_append, List.length_map, List.length_cons, List.length_nil, Nat.zero_add] at hHb hlc
 have hbF : F b = none ∨ p.map (·.1) = some b := by
  by_cases hlt : b < w.heap.size
  ·refine .inr ?_
   rw [hkeep.lab b hlt, hO1] at hOb
   simp only [] at hOb
   by_cases hc : p.map (·.1) = some b
   ·exact hc
   ·rw [if_neg hc] at hOb; omega
  ·refine .inl ?_
   cases hF : F b with
   | none => rfl
   | some q => exact absurd (Array.getElem?_eq_some_iff.1 (hm b q.1 q.2 hF).2.2).1 hlt
 have hx0 : xs.toList.take (l.length + 1) = l ++ [v] := by
  refine List.ext_getElem (by simp; omega) fun i g1 g2 => ?_
  have hi : i < (l ++ [v]).length := g2
  have hrow : ((l.map fun v => [D.v v]) ++ [[D.v v]])[i]? = some [D.v (l ++ [v])[i]] := by
   have : (l.map fun v => [D.v v]) ++ [[D.v v]] = (l ++ [v]).map fun v => [D.v v] := by simp
   rw [this, List.getElem?_map, List.getElem?_eq_getElem hi]; rfl
  obtain ⟨u, q1, q2, _⟩ := hcc i _ 0 _ hrow rfl
  cases q2 with
  | v _ =>
   have e1 : i * 1 + 0 = i := by omega
   rw [e1] at q1
   simp only [List.getElem_take, Array.getElem_toList]
   exact (Array.getElem?_eq_some_iff.1 q1).2
 have hxs : (l ++ [v] ++ xs.toList.drop (l.length + 1)).toArray = xs := by
  apply Array.ext'
  simp only [List.toList_toArray]
  conv => rhs; rw [← List.take_append_drop (l.length + 1) xs.toList, hx0]
 have hcap : (l ++ [v] ++ xs.toList.drop (l.length + 1)).length = cap := by
  have : (l ++ [v] ++ xs.toList.drop (l.length + 1)).toArray.size = xs.size := by rw [hxs]
  simp only [List.size_toArray] at this
  rw [this, hxsz]; omega
 refine wpList_plain hg fun K hK => ?_
 unfold Oper.wp
 have hex : (execOp a.eval o).run P w = .ok (.value x') w' := by simp [execOp, ho, resolve, invoke, builtin, hxa, hya, hrun]
 rw [hex]
 obtain ⟨O3, hO3⟩ : ∃ O3 : Nat → Nat, O3 = fun c => if c = b then h + 1 else O c := ⟨_, rfl⟩
 have hlab : ∀ c, c < w.heap.size → O3 c = O c := fun c hc => by
  rw [hO3]; simp only []
  split
  ·rename_i e
   subst e
   rcases hbF with hF | hF
   ·rw [hkeep.lab c hc, hO1] at hOb
    simp only [] at hOb
    by_cases hpp : p.map (·.1) = some c
    ·exact (hpc c hpp).2.1.symm
    ·rw [if_neg hpp] at hOb; omega
   ·exact (hpc c hF).2.1.symm
  ·rfl
 have hother : ∀ c, c < w.heap.size → p.map (·.1) ≠ some c → w'.heap[c]? = w.heap[c]? := fun c hc hne => hkeep.hp c hc fun h' he hl => by
  rw [hO1] at hl; simp only [] at hl
  rw [if_neg hne] at hl; omega
 have hk3 : Keep (some h) none O H w O3 H w' := ⟨hlab, fun c hc hne => hother c hc fun hpp => hne h rfl (hpc c hpp).2.1, fun _ _ => rfl⟩
 refine hK _ _ (hn b cap (xs.toList.drop (l.length + 1)) hbF hcap hcm O3 H _ _ ⟨?_, ?_, hst.bl.trans ⟨hbel.os, hbel.tape, hbel.output, hbel.size, fun c hc => hother c (by omega) fun hpp => by have := (hpc c hpp).1; omega⟩, fun c hc => (hlab c (by omega)).trans (hst.lab c hc), ?_, fun n m hm2 => ?_⟩)
 ·rw [hd]; exact hst.df
 ·rw [hd]; simp [Act.put, hst.sz]
 ·rw [hd]
  exact put_slots hst.sz hdN (by rw [← hH', hHb]; exact .d _ _ (.v _)) fun n s hs => by
   obtain ⟨y, hy, hr⟩ := hst.slots n s hs
   exact ⟨y, hy, hr.mono0 hk3⟩
 ·rcases look_cons hm2 with ⟨rfl, rfl⟩ | ⟨hne, hm2⟩
  ·intro c T' l' hc
   unfold updF at hc
   by_cases hcb : c = b
   ·subst hcb
    rw [if_pos rfl] at hc
    cases hc
    refine ⟨?_, by rw [hO3]; simp, by rw [hxs]; exact hb⟩
    by_cases hlt : c < w.heap.size
    ·rw [hkeep.lab c hlt, hO1] at hOb
     simp only [] at hOb
     by_cases hpp : p.map (·.1) = some c
     ·exact (hpc c hpp).1
     ·rw [if_neg hpp] at hOb; omega
    ·omega
   ·rw [if_neg hcb] at hc
    unfold delF at hc
    by_cases hpp : p.map (·.1) = some c
    ·rw [if_pos hpp] at hc; cases hc
    ·rw [if_neg hpp] at hc
     obtain ⟨q1, q2, q3⟩ := hm c T' l' hc
     have hlt := (Array.getElem?_eq_some_iff.1 q3).1
     exact ⟨q1, (hlab c hlt).trans q2, (hother c hlt hpp).trans q3⟩
  ·exact (hst.mem n m hm2).mono hk3 (by intro e; cases e; exact hne rfl) (by simp) 0 (fun h he => by cases he) (.inl rfl)
end
end Go.Eng
end

section
namespace Go.Eng
end Go.Eng
end

section
namespace Go.Eng
end Go.Eng
end

section
namespace Go.Eng
end Go.Eng
end

section
namespace Go.Eng
section
variable {t : Tsk} {l : List (List Int)} {i o k : Nat}
end
end Go.Eng
end

section
namespace Go.Eng
abbrev Mx := List (List Int)
end Go.Eng
end

section
namespace Go.Eng
section
variable {R : Mx} {b : List Int} {n : Nat}
end
end Go.Eng
end

section
namespace Go.Eng
section
variable {p : LPr} {t : Tb}
end
end Go.Eng
end

section
namespace Go.Eng
theorem iv_one {l : List Int} : ∀ u, u ∈ iv l → u.oneCell' = true := fun u hu => by
 obtain ⟨x, _, rfl⟩ := List.mem_map.1 hu; rfl
def bv (l : List Bool) : List Value := l.map Value.bool
theorem bv_at {l : List Bool} {tl : List Value} {j : Int} (h0 : 0 ≤ j) (h1 : j < l.length) : (bv l ++ tl)[0 + j.toNat]? = some (.bool (nth l j)) := by
 obtain ⟨k, rfl⟩ := Int.eq_ofNat_of_zero_le h0
 have hl : k < l.length := by omega
 rw [List.getElem?_append_left (by simp [bv]; omega)]
 simp [bv, List.getElem?_eq_getElem hl, nth_eq hl]
structure Ag where
 bs : Nat
 vs : Value
 bd : Nat
 da : Option Addr
 db : Nat
 dc : Nat
 dt : List Value
 ba : Nat
 fv : Value
 bp : Nat
 t1 : Nat
 t2 : Nat
 t3 : Nat
 t4 : Nat
 TB : Nat
 TI : Nat
noncomputable def acM (g : Ag) (x : AcSt) (p : Plc) : PF := fun b => if b = g.bs then some (g.t1, [g.vs]) else if b = g.bd then some (g.t2, [.slice g.da x.1.length g.dc]) else if b = g.ba then some (g.t3, [g.fv])
 else if b = g.bp then some (g.t4, [plcV p (iv x.2).length]) else if g.da ≠ none ∧ b = g.db then some (g.TB, bv x.1 ++ g.dt) else match p with
  | none => none
  | some (c, _, tl) => if b = c then some (g.TI, iv x.2 ++ tl) else none
structure AgOk (g : Ag) (n : Nat) : Prop where
 a1 : g.bd ≠ g.bs
 a2 : g.ba ≠ g.bs
 a3 : g.bp ≠ g.bs
 a4 : g.ba ≠ g.bd
 a5 : g.bp ≠ g.bd
 a6 : g.bp ≠ g.ba
 d : n ≠ 0 → g.da = some ⟨g.db, 0, none⟩
 e : g.da ≠ none → g.db ≠ g.bs ∧ g.db ≠ g.bd ∧ g.db ≠ g.ba ∧ g.db ≠ g.bp
structure AcOk (g : Ag) (x : AcSt) (p : Plc) : Prop where
 n : p = none → x.2 = []
 s : ∀ c cap tl, p = some (c, cap, tl) → c ≠ g.bs ∧ c ≠ g.bd ∧ c ≠ g.ba ∧ c ≠ g.bp ∧ (g.da ≠ none → c ≠ g.db) ∧ (iv x.2 ++ tl).length = cap ∧ cap ≤ maxLen
def AcR (g : Ag) (x : AcSt) : PF → Prop := fun F => ∃ p, F = acM g x p ∧ AcOk g x p
section
variable {g : Ag} {x : AcSt} {p : Plc} {n : Nat}
theorem acM_1 : acM g x p g.bs = some (g.t1, [g.vs]) := by simp [acM]
theorem acM_2 (h : AgOk g n) : acM g x p g.bd = some (g.t2, [.slice g.da x.1.length g.dc]) := by simp [acM, h.a1]
theorem acM_3 (h : AgOk g n) : acM g x p g.ba = some (g.t3, [g.fv]) := by simp [acM, h.a2, h.a4]
theorem acM_4 (h : AgOk g n) : acM g x p g.bp = some (g.t4, [plcV p (iv x.2).length]) := by simp [acM, h.a3, h.a5, h.a6]
theorem acM_5 (h : AgOk g n) (hd : g.da ≠ none) : acM g x p g.db = some (g.TB, bv x.1 ++ g.dt) := by
 obtain ⟨e1, e2, e3, e4⟩ := h.e hd
 simp [acM, e1, e2, e3, e4, hd]
theorem acM_set (h : AgOk g n) (hd : g.da ≠ none) {i : Nat} (hi : i < x.1.length) : updF (acM g x p) g.db g.TB ((bv x.1 ++ g.dt).set (0 + i) (.bool true)) = acM g (x.1.set i true, x.2) p := by
 obtain ⟨e1, e2, e3, e4⟩ := h.e hd
 funext b
 unfold updF
 by_cases hb : b = g.db
 ·subst hb
  rw [if_pos rfl]
  show _ = acM g (x.1.set i true, x.2) p g.db
  rw [acM_5 h hd, Nat.zero_add, List.set_append_left _ _ (by simpa [bv] using hi)]
  simp [bv, List.map_set]
 ·rw [if_neg hb]
  unfold acM
  simp [hb, List.length_set]
theorem AcOk.set (h : AcOk g x p) {i : Nat} : AcOk g (x.1.set i true, x.2) p := ⟨h.n, h.s⟩
theorem AcOk.plc {T : Nat} (hT : g.TI = T) (h : AgOk g n) (hk : AcOk g x p) : PlcOk p (iv x.2) T (acM g x p) := by
 subst hT
 refine ⟨fun e => by rw [hk.n e]; rfl, fun b cap tl e => ?_⟩
 obtain ⟨e1, e2, e3, e4, e5, e6, e7⟩ := hk.s b cap tl e
 refine ⟨?_, e6, e7⟩
 unfold acM
 rw [if_neg e1, if_neg e2, if_neg e3, if_neg e4, if_neg (fun q => e5 q.1 q.2), e]
 simp
theorem AcOk.ne (h : AgOk g n) (hk : AcOk g x p) {b : Nat} (hb : acM g x p b = none ∨ p.map (·.1) = some b) : b ≠ g.bs ∧ b ≠ g.bd ∧ b ≠ g.ba ∧ b ≠ g.bp ∧ (g.da ≠ none → b ≠ g.db) := by
 rcases hb with hb | hb
 ·refine ⟨fun e => ?_, fun e => ?_, fun e => ?_, fun e => ?_, fun hd e => ?_⟩
  ·rw [e, acM_1] at hb; cases hb
  ·rw [e, acM_2 h] at hb; cases hb
  ·rw [e, acM_3 h] at hb; cases hb
  ·rw [e, acM_4 h] at hb; cases hb
  ·rw [e, acM_5 h hd] at hb; cases hb
 ·obtain ⟨q, rfl, rfl⟩ := Option.map_eq_some_iff.1 hb
  obtain ⟨e1, e2, e3, e4, e5, _⟩ := hk.s q.1 q.2.1 q.2.2 rfl
  exact ⟨e1, e2, e3, e4, e5⟩
theorem acM_4d (h : AgOk g n) (hk : AcOk g x p) {b cap T : Nat} {l : List Value} (hb : acM g x p b = none ∨ p.map (·.1) = some b) : updF (delF (acM g x p) p) b T l g.bp = some (g.t4, [plcV p (iv x.2).length]) := by
 have hne := (hk.ne h hb).2.2.2.1
 unfold updF
 rw [if_neg (fun e => hne e.symm)]
 unfold delF
 rw [if_neg (fun e => by
  obtain ⟨q, rfl, e2⟩ := Option.map_eq_some_iff.1 e
  exact (hk.s q.1 q.2.1 q.2.2 rfl).2.2.2.1 e2)]
 exact acM_4 h
theorem acM_app {T : Nat} (hT : g.TI = T) (h : AgOk g n) (hk : AcOk g x p) {b cap : Nat} {tl : List Value} {v : Int} (hb : acM g x p b = none ∨ p.map (·.1) = some b) :
  updF (updF (delF (acM g x p) p) b T (iv x.2 ++ [Value.int .i64 v] ++ tl)) g.bp g.t4 ([plcV p (iv x.2).length].set 0 (slc b ((iv x.2).length + 1) cap)) = acM g (x.1, x.2 ++ [v]) (some (b, cap, tl)) := by
 subst hT
 obtain ⟨e1, e2, e3, e4, e5⟩ := hk.ne h hb
 have hv : iv (x.2 ++ [v]) = iv x.2 ++ [.int .i64 v] := by simp [iv]
 funext c
 unfold updF
 by_cases hc : c = g.bp
 ·subst hc
  rw [if_pos rfl, acM_4 h, hv]
  simp [plcV]
 ·rw [if_neg hc]
  by_cases hcb : c = b
  ·subst hcb
   rw [if_pos rfl]
   unfold acM
   rw [if_neg e1, if_neg e2, if_neg e3, if_neg e4, if_neg (fun q => e5 q.1 q.2), hv]
   simp
  ·rw [if_neg hcb]
   unfold delF
   split
   ·rename_i hp
    obtain ⟨q, rfl, rfl⟩ := Option.map_eq_some_iff.1 hp
    obtain ⟨f1, f2, f3, f4, f5, _⟩ := hk.s q.1 q.2.1 q.2.2 rfl
    unfold acM
    rw [if_neg f1, if_neg f2, if_neg f3, if_neg f4, if_neg (fun r => f5 r.1 r.2)]
    simp [hcb]
   ·rename_i hp
    unfold acM
    split
    ·rfl
    ·split
     ·rfl
     ·split
      ·rfl
      ·try rw [if_neg hc, if_neg hc]
       split
       ·rfl
       ·cases p with
        | none => simp [hcb]
        | some q =>
         obtain ⟨c2, cap2, tl2⟩ := q
         have : c ≠ c2 := fun e => hp (by rw [e]; rfl)
         simp [hcb, this]
theorem AcOk.app (h : AgOk g n) (hk : AcOk g x p) {b cap : Nat} {tl : List Value} {v : Int} (hb : acM g x p b = none ∨ p.map (·.1) = some b) (hl : (iv x.2 ++ [Value.int .i64 v] ++ tl).length = cap) (hc : cap ≤ maxLen) : AcOk g (x.1, x.2 ++ [v]) (some (b, cap, tl)) := by
 refine ⟨fun e => (by cases e), fun c cap' tl' e => ?_⟩
 cases e
 obtain ⟨e1, e2, e3, e4, e5⟩ := hk.ne h hb
 exact ⟨e1, e2, e3, e4, e5, by rw [← hl]; simp [iv], hc⟩
theorem AcR.live {x' : AcSt} (h : AgOk g n) : ∀ F', AcR g x' F' → ∃ b, acM g x p b ≠ none ∧ F' b ≠ none := fun F' ⟨p', e, _⟩ => ⟨g.bs, by rw [acM_1]; simp, by rw [e, acM_1]; simp⟩
end
theorem acF_n {t : Tsk} (hV : TskV t) {sup : List Int} (hs : ∀ p : Int, 0 ≤ p → p < t.facts → nth sup p < t.ops.length) : ∀ (f : Nat) {p : Int} {x : AcSt}, 0 ≤ p → p < t.facts → x.1.length = t.ops.length →
  (acF t sup f p x).1.length = t.ops.length ∧ cntF (acF t sup f p x).1 ≤ cntF x.1 ∧ (acF t sup f p x).2.length + cntF (acF t sup f p x).1 ≤ x.2.length + cntF x.1
 | 0, _, _, _, _, hx => ⟨hx, Nat.le_refl _, Nat.le_refl _⟩
 | f + 1, p, x, p0, p1, hx => by
  simp only [acF]
  split
  ·exact ⟨hx, Nat.le_refl _, Nat.le_refl _⟩
  ·rename_i h
   have h0 : 0 ≤ nth sup p := Int.not_lt.1 fun q => h (.inl q)
   have h1 := hs p p0 p1
   obtain ⟨o, ho⟩ := Int.eq_ofNat_of_zero_le h0
   rw [ho] at h h1 ⊢
   have hxo : nth x.1 (o : Int) = false := by
    cases hb : nth x.1 (o : Int) with
    | false => rfl
    | true => exact absurd (.inr hb) h
   have hcn := cntF_set (v := x.1) (p := (o : Int)) (by omega) (by omega) hxo
   have hpr := set_rng (hV.op o (by omega)).1.1
   have key : ∀ k : Nat, k ≤ (nth t.ops (o : Int)).pre.length → (acK (acF t sup f) (nth t.ops (o : Int)).pre (x.1.set (o : Int).toNat true, x.2) k).1.length = t.ops.length ∧ cntF (acK (acF t sup f) (nth t.ops (o : Int)).pre (x.1.set (o : Int).toNat true, x.2) k).1 + 1 ≤ cntF x.1 ∧
     (acK (acF t sup f) (nth t.ops (o : Int)).pre (x.1.set (o : Int).toNat true, x.2) k).2.length + cntF (acK (acF t sup f) (nth t.ops (o : Int)).pre (x.1.set (o : Int).toNat true, x.2) k).1 + 1 ≤ x.2.length + cntF x.1 := fun k => by
    induction k with
    | zero => exact fun _ => ⟨by simpa [acK] using hx, by show cntF (x.1.set (o : Int).toNat true) + 1 ≤ _; omega, by show x.2.length + cntF (x.1.set (o : Int).toNat true) + 1 ≤ _; omega⟩
    | succ k ih =>
     intro hk
     obtain ⟨g1, g2, g3⟩ := ih (by omega)
     have hq := hpr k (by omega)
     obtain ⟨r1, r2, r3⟩ := acF_n hV hs f hq.1 hq.2 g1
     exact ⟨r1, Nat.le_trans (Nat.succ_le_succ r2) g2, Nat.le_trans (Nat.succ_le_succ r3) g3⟩
   obtain ⟨g1, g2, g3⟩ := key _ (Nat.le_refl _)
   exact ⟨g1, Nat.le_of_succ_le g2, by simp only [List.length_append, List.length_singleton]; omega⟩
theorem acK_n {t : Tsk} (hV : TskV t) {sup : List Int} (hs : ∀ p : Int, 0 ≤ p → p < t.facts → nth sup p < t.ops.length) {f : Nat} {l : List Int} (hl : ∀ k : Nat, k < l.length → 0 ≤ nth l k ∧ nth l k < t.facts) {x : AcSt} (hx : x.1.length = t.ops.length) : ∀ {k : Nat}, k ≤ l.length →
  (acK (acF t sup f) l x k).1.length = t.ops.length ∧ cntF (acK (acF t sup f) l x k).1 ≤ cntF x.1 ∧ (acK (acF t sup f) l x k).2.length + cntF (acK (acF t sup f) l x k).1 ≤ x.2.length + cntF x.1
 | 0, _ => ⟨hx, Nat.le_refl _, Nat.le_refl _⟩
 | k + 1, hk => by
  obtain ⟨g1, g2, g3⟩ := acK_n hV hs hl hx (k := k) (by omega)
  obtain ⟨r1, r2, r3⟩ := acF_n hV hs f (hl k (by omega)).1 (hl k (by omega)).2 g1
  exact ⟨r1, Nat.le_trans r2 g2, Nat.le_trans r3 g3⟩
end Go.Eng
end

section
namespace Go.Eng
theorem iv_at2 {l : List Int} {tl : List Value} {j : Int} (h0 : 0 ≤ j) (h1 : j < l.length) : (iv l ++ tl)[0 + j.toNat]? = some (.int .i64 (nth l j)) := by
 obtain ⟨k, rfl⟩ := Int.eq_ofNat_of_zero_le h0
 have hl : k < l.length := by omega
 rw [List.getElem?_append_left (by simp [iv]; omega)]
 simp [iv, List.getElem?_eq_getElem hl, nth_eq hl]
theorem pinPut {F : PF} {b T : Nat} {l : List Value} {c : Nat} (h : updF F b T l c = none) : c ≠ b ∧ F c = none := by
 unfold updF at h
 by_cases hc : c = b
 ·rw [if_pos hc] at h; cases h
 ·rw [if_neg hc] at h; exact ⟨hc, h⟩
theorem acM_start {vs : Value} {bs t1 bd t2 ba t3 bp t4 db dc TB TI n : Nat} {da : Option Addr} {dt : List Value} {F : PF}
  (hF : (da = none ∧ bv (List.replicate n false) = [] ∧ F = updF noF bs t1 [vs]) ∨ (da = some ⟨db, 0, none⟩ ∧ updF noF bs t1 [vs] db = none ∧ F = updF (updF noF bs t1 [vs]) db TB (bv (List.replicate n false) ++ dt)))
  (h2 : F bd = none) (h3 : updF F bd t2 [.slice da (bv (List.replicate n false)).length dc] ba = none) (h4 : updF (updF F bd t2 [.slice da (bv (List.replicate n false)).length dc]) ba t3 [.nilFunc] bp = none) (fv : Value) :
  updF (updF (updF F bd t2 [.slice da (bv (List.replicate n false)).length dc]) ba t3 [.nilFunc]) bp t4 [.slice none 0 0] = acM ⟨bs, vs, bd, da, db, dc, dt, ba, .nilFunc, bp, t1, t2, t3, t4, TB, TI⟩ (List.replicate n false, []) none ∧
   AgOk ⟨bs, vs, bd, da, db, dc, dt, ba, fv, bp, t1, t2, t3, t4, TB, TI⟩ n := by
 obtain ⟨q1, q2⟩ := pinPut h3
 obtain ⟨r1, r2⟩ := pinPut h4
 obtain ⟨r3, r4⟩ := pinPut r2
 have hlen : (bv (List.replicate n false)).length = n := by simp [bv]
 rcases hF with ⟨e1, e2, rfl⟩ | ⟨e1, e2, rfl⟩
 ·obtain ⟨s1, _⟩ := pinPut h2
  obtain ⟨s2, _⟩ := pinPut q2
  obtain ⟨s3, _⟩ := pinPut r4
  have hn : n = 0 := by rw [← hlen, e2]; rfl
  refine ⟨?_, ⟨s1, s2, s3, q1, r3, r1, fun h => absurd hn h, fun h => absurd e1 h⟩⟩
  subst e1
  funext c
  unfold updF acM noF
  simp only [hlen, List.length_replicate]
  by_cases c1 : c = bp
  ·subst c1; simp [s3, r3, r1, plcV]
  ·by_cases c2 : c = ba
   ·subst c2; simp [c1, s2, q1]
   ·by_cases c3 : c = bd
    ·subst c3; simp [c1, c2, s1]
    ·by_cases c4 : c = bs
     ·subst c4; simp [c1, c2, c3]
     ·simp [c1, c2, c3, c4]
 ·obtain ⟨d1, s1⟩ := pinPut h2
  obtain ⟨d2, s2⟩ := pinPut q2
  obtain ⟨d3, s3⟩ := pinPut r4
  obtain ⟨s1, _⟩ := pinPut s1
  obtain ⟨s2, _⟩ := pinPut s2
  obtain ⟨s3, _⟩ := pinPut s3
  obtain ⟨s0, _⟩ := pinPut e2
  refine ⟨?_, ⟨s1, s2, s3, q1, r3, r1, fun _ => e1, fun _ => ⟨s0, fun e => d1 e.symm, fun e => d2 e.symm, fun e => d3 e.symm⟩⟩⟩
  subst e1
  funext c
  unfold updF acM noF
  simp only [hlen, List.length_replicate]
  by_cases c1 : c = bp
  ·subst c1; simp [s3, r3, r1, plcV]
  ·by_cases c2 : c = ba
   ·subst c2; simp [c1, s2, q1]
   ·by_cases c3 : c = bd
    ·subst c3; simp [c1, c2, s1]
    ·by_cases c5 : c = db
     ·subst c5; simp [c1, c2, c3, s0]
     ·by_cases c4 : c = bs
      ·subst c4; simp [c1, c2, c3, c5]
      ·simp [c1, c2, c3, c4, c5]
theorem acM_fv {n : Nat} {g : Ag} {x : AcSt} {p : Plc} {fv : Value} (h : AgOk g n) : updF (acM g x p) g.ba g.t3 ([g.fv].set 0 fv) = acM { g with fv := fv } x p := by
 funext c
 unfold updF
 by_cases hc : c = g.ba
 ·subst hc
  rw [if_pos rfl]
  simp [acM, h.a2, h.a4]
 ·rw [if_neg hc]
  unfold acM
  simp [hc]
theorem acM_rep {g : Ag} {x : AcSt} {p : Plc} (hk : AcOk g x p) {O : Nat → Nat} {w : World} (h : ∀ b T l, acM g x p b = some (T, l) → O b = 0 ∧ w.heap[b]? = some (.cells l.toArray T (0, 0))) (H : Nat → Value) : RepS O H w (plcV p (iv x.2).length) (.d (ints x.2)) := by
 refine .d _ _ ?_
 cases p with
 | none => rw [hk.n rfl]; exact .e none 0 1 (Nat.zero_le _)
 | some q =>
  obtain ⟨c, cap, tl⟩ := q
  obtain ⟨e1, e2, e3, e4, e5, e6, e7⟩ := hk.s c cap tl rfl
  obtain ⟨h0, hb⟩ := h c g.TI (iv x.2 ++ tl) (by
   unfold acM
   rw [if_neg e1, if_neg e2, if_neg e3, if_neg e4, if_neg (fun q => e5 q.1 q.2)]
   simp)
  have hl : (x.2.map fun v => [D.v (.int .i64 v)]).length = (iv x.2).length := by simp [iv]
  have := RepD.s (O := O) (w := w) c 0 cap 1 (x.2.map fun v => [D.v (.int .i64 v)]) (fun i => .int .i64 (nth x.2 i)) (by rw [hl]; simp at e6 ⊢; omega) e7 (fun r hr => by obtain ⟨u, _, rfl⟩ := List.mem_map.1 hr; rfl) (fun _ _ _ _ _ _ => h0) (fun i r j d hi hj => ?_) (fun i r j d hi hj => ?_)
  ·rw [hl] at this; exact this
  all_goals
   rw [List.getElem?_map, Option.map_eq_some_iff] at hi
   obtain ⟨u, hu, rfl⟩ := hi
   obtain ⟨hi', hue⟩ := List.getElem?_eq_some_iff.1 hu
   obtain rfl : j = 0 := by have := (List.getElem?_eq_some_iff.1 hj).1; simp at this; exact this
   simp only [List.getElem?_cons_zero, Option.some.injEq] at hj
   subst hj
   have e8 : i * 1 + 0 = i := by omega
  ·rw [e8]
   refine cellOf hb ?_
   have := iv_at2 (l := x.2) (tl := tl) (j := (i : Int)) (by omega) (by omega)
   rw [Int.toNat_natCast] at this
   simpa using this
  ·rw [e8, nth_eq hi', hue]; exact .v _
def plO (t : Tsk) (s : List Int) : Prop := sttF t s = (0, 0) ∧ plB t s
open Classical in
noncomputable def plQ (t : Tsk) (s : List Int) : List Int := if plO t s then plL t s else []
open Classical in
noncomputable def plY (t : Tsk) (s : List Int) : Bool := decide (plO t s)
theorem plY_t {t : Tsk} {s : List Int} (h : plO t s) : plQ t s = plL t s ∧ plY t s = true := by unfold plQ plY; rw [if_pos h]; simp [h]
theorem plY_f {t : Tsk} {s : List Int} (h : ¬ plO t s) : plQ t s = [] ∧ plY t s = false := by unfold plQ plY; rw [if_neg h]; simp [h]
end Go.Eng
end

section
namespace Go.Proofs.YthjmgcopfipabaaGreat
open Go.Eng
set_option maxRecDepth 10000
set_option maxHeartbeats 1000000
theorem relaxplan_Plan_2_Q (g : Ag) (t : Tsk) (s : List Int) (hg : AgOk g t.ops.length) (hI : g.TI = 3) (hB : g.TB = 4) (vt : Value) (hfv : g.fv = .func (.func 37) #[] ([ptr g.bs 0, ptr g.bd 0, vt, ptr g.ba 0, ptr g.bp 0]).toArray) (hV : TskV t) (hs : ∀ p, p ∈ s → 0 ≤ p ∧ p < t.facts) (d : Nat) (ih : ∀ (p : Int) (x : AcSt) (pl : Plc), 0 ≤ p → p < t.facts → x.1.length = t.ops.length → cntF x.1 < d → x.2.length + cntF x.1 ≤ 1000000 → AcOk g x pl →  DoesQ Tryz.prog 37 [.int .i64 p, ptr g.bs 0, ptr g.bd 0, vt, ptr g.ba 0, ptr g.bp 0] g.vs (.d (ints (spF t s))) vt (.p [.v (.int .i64 t.facts), ints t.ini, ints t.goal, sopsD t.ops]) (acM g x pl) (AcR g (acF t (spF t s) d p x))) (p : Int) (x : AcSt) (pl : Plc) (p0 : 0 ≤ p) (p1 : p < t.facts) (hx : x.1.length = t.ops.length) (hc : cntF x.1 < d + 1) (hm : x.2.length + cntF x.1 ≤ 1000000) (hk : AcOk g x pl) : DoesQ Tryz.prog 37 [.int .i64 p, ptr g.bs 0, ptr g.bd 0, vt, ptr g.ba 0, ptr g.bp 0] g.vs (.d (ints (spF t s))) vt (.p [.v (.int .i64 t.facts), ints t.ini, ints t.goal, sopsD t.ops]) (acM g x pl) (AcR g (acF t (spF t s) (d + 1) p x)) := by
 have hf0 := hV.facts
 have hol := hV.ops
 obtain ⟨hSK, hSp⟩ := sp_spec hV hs
 have hl1 := hSK.l1
 have hsl : ((spF t s).length : Int) = t.facts := hl1
 have hso : ∀ p : Int, 0 ≤ p → p < t.facts → nth (spF t s) p < t.ops.length := fun p p0 p1 => Int.not_le.1 fun h => (by obtain ⟨o, e, ho, _⟩ := hSK.s p p0 p1 (by show 0 ≤ nth (spF t s) p; omega); have e : nth (spF t s) p = o := e; omega)
 have hsp := hso p p0 p1
 refine DoesQ.of_body Tryz.func37 rfl rfl (by simp) Tryz.call37 (AcR.live hg) (fun O0 Oc W => ?_); refine .g <| .toDat 3 1002 rfl rfl ?_; refine .r <| .x (OpSem.loadd (h := 0) (k := 1001) rfl rfl rfl rfl vs22 acM_1 rfl) ?_; refine .m ?_; refine .x (.i es22) ?_; refine .x (.l1 vs3) ?_; refine .a ?_; refine .sq <| .g <| .g <| .r <| .m ?_; refine .x (.b blss) ?_; refine .m ?_; refine .split (n := 16) rfl (fun c16 => ?_) (fun c16 => ?_)
 ·have hret : acF t (spF t s) (d + 1) p x = x := by simp only [acF]; rw [if_pos (.inl (by simpa using c16))]
  refine .hf c16 ?_; refine .hf c16 ?_; refine .hf c16 ?_; refine .hf c16 ?_; refine .x (OpSem.pickT rfl rfl c16 rfl) ?_; refine .sq <| .condT rfl rfl ?_; exact .t <| .t <| .retQ (.inl rfl) rfl rfl rfl (⟨pl, by rw [hret], by rw [hret]; exact hk⟩)
 ·have h0 : 0 ≤ (nth (spF t s) p) := by simpa using c16
  have hda := hg.d (by omega)
  have hdn : g.da ≠ none := by rw [hda]; simp
  refine .ht c16 ?_; refine .x (OpSem.loadv (h := 0) rfl rfl rfl vs75 (acM_2 hg) rfl) ?_; refine .ht c16 ?_; refine .m ?_; refine .ht c16 ?_; refine .x (OpSem.idxv rfl rfl rfl es75 hda (by omega) (by omega)) ?_; refine .ht c16 ?_; refine .x (OpSem.loadv (h := 0) rfl rfl rfl vs4 (acM_5 hg hdn) (bv_at (by omega) (by omega))) ?_; refine .x (OpSem.pickF rfl rfl c16 rfl) ?_; refine .sq <| .cond rfl (fun c21 => ?_) (fun c21 => ?_)
  ·have hret : acF t (spF t s) (d + 1) p x = x := by simp only [acF]; rw [if_pos (.inr c21)]
   exact .t <| .t <| .retQ (.inl rfl) rfl rfl rfl (⟨pl, by rw [hret], by rw [hret]; exact hk⟩)
  ·have hno : nth x.1 (nth (spF t s) p) = false := c21
   have hst : acF t (spF t s) (d + 1) p x = ((acK (acF t (spF t s) d) (nth t.ops (nth (spF t s) p)).pre (x.1.set (nth (spF t s) p).toNat true, x.2) (nth t.ops (nth (spF t s) p)).pre.length).1, (acK (acF t (spF t s) d) (nth t.ops (nth (spF t s) p)).pre (x.1.set (nth (spF t s) p).toNat true, x.2) (nth t.ops (nth (spF t s) p)).pre.length).2 ++ [(nth (spF t s) p)]) := by simp only [acF]; rw [if_neg (fun h => h.elim (fun h => by omega) (fun h => by rw [hno] at h; cases h))]
   have hcn := cntF_set (v := x.1) (p := (nth (spF t s) p)) h0 (by omega) hno
   obtain ⟨o, ho⟩ := Int.eq_ofNat_of_zero_le h0
   have hpr := set_rng (n := t.facts) (l := (nth t.ops (nth (spF t s) p)).pre) (by rw [ho]; exact (hV.op o (by omega)).1.1)
   have hprl := setP_len (n := t.facts) (l := (nth t.ops (nth (spF t s) p)).pre) (by rw [ho]; exact (hV.op o (by omega)).1.1) hf0.2
   have hx1 : ((x.1.set (nth (spF t s) p).toNat true, x.2) : AcSt).1.length = t.ops.length := by simpa using hx
   refine .p <| .z <| .x (OpSem.loadv (h := 0) rfl rfl rfl vs75 (acM_2 hg) rfl) ?_; refine .m ?_; refine .x (OpSem.idxv rfl rfl rfl es75 hda (by omega) (by omega)) ?_; refine .ofSt0' (OpSt.storev (h := 0) rfl rfl rfl vs4 (acM_5 hg hdn) (by simp [bv]; omega) rfl (acM_set hg hdn (by omega))) rfl rfl rfl ?_; refine .sq <| .g <| .g <| .r <| .x (OpSem.fieldp rfl rfl fo25_3) ?_; refine .x (.l1 vs23) ?_; refine .m ?_; refine .x (.i es23) ?_; refine .x (OpSem.fieldp rfl rfl fo41_0) ?_; refine .x (.l1 vs22) ?_; refine .x (.n es22) ?_; refine .m ?_; refine .sq <| .k <| .loop (X := (Nat × Plc)) (fun q => q.1 ≤ (nth t.ops (nth (spF t s) p)).pre.length ∧ AcOk g (acK (acF t (spF t s) d) (nth t.ops (nth (spF t s) p)).pre (x.1.set (nth (spF t s) p).toNat true, x.2) q.1) q.2) (fun q => [(4, .d (.v (ptr g.ba 0))), (5, .d (.v (ptr g.bp 0))), (7, I ((nth (spF t s) p))), (30, .d (ints ((nth t.ops (nth (spF t s) p)).pre))), (31, I (((nth t.ops (nth (spF t s) p)).pre).length)), (32, I ((q.1 : Int))), (3, .p [.v (.int .i64 t.facts), ints t.ini, ints t.goal, sopsD t.ops])]) (fun q => [(0, .any (pinK (acM g (acK (acF t (spF t s) d) (nth t.ops (nth (spF t s) p)).pre (x.1.set (nth (spF t s) p).toNat true, x.2) q.1) q.2))), (1000, .fr (frK Oc W)), (1001, .fr (datS g.vs (.d (ints (spF t s))))), (1002, .fr (datS vt (.p [.v (.int .i64 t.facts), ints t.ini, ints t.goal, sopsD t.ops])))]) (fun q => (nth t.ops (nth (spF t s) p)).pre.length - q.1) (0, pl) ⟨by simp, hk.set⟩ ?_ ?_
   ·exact .p5 <| .slot rfl (Le.of_eq (by simp)) <| .all
   ·rintro q ⟨hq1, hq2⟩
    have hq3 := acK_n hV hso (f := d) hpr hx1 hq1
    simp only at hq3
    refine .g <| .r <| .x (.b blss) ?_; refine .sq <| .g <| .cond rfl (fun c33 => ?_) (fun c33 => ?_)
    ·have hkl : q.1 < (nth t.ops (nth (spF t s) p)).pre.length := by simpa using c33
     have hpk := hpr q.1 hkl
     refine .p <| .g <| .g <| .k <| .g <| .r <| .x (.i es22) ?_; refine .x (.l1 vs3) ?_; refine .a ?_; refine .y <| .x (OpSem.loadv (h := 0) rfl rfl rfl vs76 (acM_3 hg) (congrArg some hfv)) ?_; refine .m ?_; refine .callQ (h := 0) (k1 := 1001) (k2 := 1002) (args := [.int .i64 (nth (nth t.ops (nth (spF t s) p)).pre q.1)]) (caps := [ptr g.bs 0, ptr g.bd 0, vt, ptr g.ba 0, ptr g.bp 0]) (ih (nth (nth t.ops (nth (spF t s) p)).pre q.1) (acK (acF t (spF t s) d) (nth t.ops (nth (spF t s) p)).pre (x.1.set (nth (spF t s) p).toNat true, x.2) q.1) q.2 hpk.1 hpk.2 hq3.1 (by omega) (by omega) hq2) rfl rfl rfl (by decide) rfl rfl (fun H => rfl) rfl rfl rfl ?_
     rintro _ ⟨pl2, rfl, hpl2⟩
     refine .n <| .n <| .y <| .x .ad ?_; refine .m ?_; refine .n <| .again (q.1 + 1, pl2) ⟨by simp only []; omega, hpl2⟩ ?_ (by simp only []; omega)
     exact .p5 <| .slot rfl (Le.of_eq (by simp)) <| .all
    ·have hkl : q.1 = (nth t.ops (nth (spF t s) p)).pre.length := by simp at c33; omega
     refine .u <| .u <| .u <| .b <| .y <| .x (OpSem.loadv (h := 0) rfl rfl rfl vs22 (acM_4 hg) rfl) ?_; refine .m ?_; refine .x (.bs es22 ze22) ?_; refine .appendP (h := 0) (l := iv (acK (acF t (spF t s) d) (nth t.ops (nth (spF t s) p)).pre (x.1.set (nth (spF t s) p).toNat true, x.2) q.1).2) (v := .int .i64 (nth (spF t s) p)) rfl rfl rfl (by decide) rfl rfl rfl es22 el22 zc3 rfl by3 iv_one rfl (by simp [iv, maxLen]; omega) (by simp [iv]; omega) (AcOk.plc hI hg hq2) ?_
     intro b_ cap_ tl_ hb_ hl_ hc_
     refine .ofSt0' (OpSt.storev (h := 0) rfl rfl rfl vs22 (acM_4d (cap := cap_) hg hq2 hb_) (by simp) rfl (acM_app hI hg hq2 hb_)) rfl rfl rfl ?_; exact .n <| .retQ (.inr rfl) rfl rfl rfl ((⟨some (b_, cap_, tl_), by rw [hst, ← hkl], by rw [hst, ← hkl]; exact hq2.app hg hb_ hl_ hc_⟩))
theorem achieve_Q (g : Ag) (t : Tsk) (s : List Int) (hg : AgOk g t.ops.length) (hI : g.TI = 3) (hB : g.TB = 4) (vt : Value) (hfv : g.fv = .func (.func 37) #[] ([ptr g.bs 0, ptr g.bd 0, vt, ptr g.ba 0, ptr g.bp 0]).toArray) (hV : TskV t) (hs : ∀ p, p ∈ s → 0 ≤ p ∧ p < t.facts) : ∀ (d : Nat) (p : Int) (x : AcSt) (pl : Plc), 0 ≤ p → p < t.facts → x.1.length = t.ops.length → cntF x.1 < d → x.2.length + cntF x.1 ≤ 1000000 → AcOk g x pl →  DoesQ Tryz.prog 37 [.int .i64 p, ptr g.bs 0, ptr g.bd 0, vt, ptr g.ba 0, ptr g.bp 0] g.vs (.d (ints (spF t s))) vt (.p [.v (.int .i64 t.facts), ints t.ini, ints t.goal, sopsD t.ops]) (acM g x pl) (AcR g (acF t (spF t s) d p x))
  | 0, p, x, pl => fun _ _ _ h => absurd h (Nat.not_lt_zero _)
  | d + 1, p, x, pl => fun p0 p1 hx hc hm hk => relaxplan_Plan_2_Q g t s hg hI hB vt hfv hV hs d (achieve_Q g t s hg hI hB vt hfv hV hs d) p x pl p0 p1 hx hc hm hk
theorem relaxplan_Plan_1_does (l : List Int) (p : Int) (h0 : 0 ≤ p) (h1 : p < l.length) : Does Tryz.prog false 36 [I (p), .p [ints l]] (Bo (decide (nth l p < 0))) := by
 refine Does.of_body Tryz.func36 rfl rfl (by simp) Tryz.call36 (fun w0 O0 => ?_); refine .g <| .r <| .a ?_; refine .z <| .x (.l1 vs22) ?_; refine .m ?_; refine .x (.i es22) ?_; refine .x (.l1 vs3) ?_; refine .x (.b blss) ?_; refine .a ?_; exact .sq <| .t <| .ret rfl (.tmp rfl <| .nil) rfl (.refl _)
theorem relaxplan_Plan_does (t : Tsk) (s : List Int) : Does Tryz.prog false 11 [tskS t, .d (ints s)] (.t [.d (ints (plQ t s)), Bo (plY t s), flt (sttF t s)]) := by
 refine Does.of_body Tryz.func11 rfl rfl (by simp) Tryz.call11 (fun w0 O0 => ?_); refine .lg 0 1 fun len0_1 => ?_; refine .lg 0 2 fun len0_2 => ?_; refine .lg 0 3 fun len0_3 => ?_; refine .le 1 fun len1 => ?_; refine .g <| .r <| .bx 2 ?_; refine .a ?_; refine .a ?_; refine .al 6 zc28 ?_; refine .sq <| .g <| .g <| .r <| .x (.L vs25) ?_; refine .m ?_; refine .x (OpSem.call0 (strips_StateFault_does t s) rfl rfl rfl rfl (Les.refl _)) ?_; refine .al 7 zc28 ?_; refine .sb vs28 ?_; refine .z <| .x (.L vs28) ?_; refine .x (.bd pl28 zc28) ?_; refine .x (OpSem.neS2 rfl rfl rfl io28) ?_; refine .sq <| .cond rfl (fun c20 => ?_) (fun c20 => ?_)
 ·have hne : sttF t s ≠ (0, 0) := fun h => by simp [h] at c20
  obtain ⟨y1, y2⟩ := plY_f (t := t) (s := s) (fun h => hne h.1)
  refine .g <| PC.start [] ?_; refine .x (.L vs28) ?_; refine .x (OpSem.move (.inr rfl) rfl) ?_; refine .x (OpSem.move (.inr rfl) rfl) ?_; refine .d0 mixed ?_; refine .sb vs28 ?_; exact .sq <| .t <| .t <| .ret rfl (.tmp rfl <| .tmp rfl <| .cellN rfl rfl vs28 <| .nil) rfl (Le.t (.cons (y1 ▸ Le.nil 1) <| .cons (Le.bo y2.symm) <| .cons (.refl _) <| .nil))
 ·have h0 : sttF t s = (0, 0) := pair0 (by simpa using c20)
  obtain ⟨hV, hS⟩ := sttF_ok h0
  have hs : ∀ p, p ∈ s → 0 ≤ p ∧ p < t.facts := fun p hp => setP_mem hS hp
  have hf0 := hV.facts
  have hol := hV.ops
  have hlv := (lvl_spec (t := t) (s := s) hV hs).1.l
  refine .p <| .g <| .g <| PC.start [] ?_; refine .x (.L vs25) ?_; refine .m ?_; refine .x (OpSem.call0 (relaxplan_levels_does t s hV hS).fresh rfl rfl rfl rfl (Les.refl _)) ?_; refine .x (.L vs25) ?_; refine .m ?_; refine .x (OpSem.call0 (relaxplan_supporters_does t s hV hS).fresh rfl rfl rfl rfl (Les.refl _)) ?_; refine .semM (OpSem.alloc 8 rfl zc22 rfl) rfl rfl ?_; refine .semM (OpSem.alloc 9 rfl zc22 rfl) rfl rfl ?_; refine .dn mixed ?_; refine .sb vs22 ?_; refine .sb vs22 ?_; refine .sq <| .g <| .g <| .r <| .x (.f fo25_2) ?_; refine .x (.l vs22) ?_; refine .x (OpSem.makeFunc rfl rfl rfl) ?_; refine .x (OpSem.call (slices_ContainsFunc_int_int_does t.goal 36 [.p [ints (lvlF t s)]] (fun p => decide (nth (lvlF t s) p < 0)) (caught_p _) (fun x hx => relaxplan_Plan_1_does (lvlF t s) x (setP_mem hV.goal hx).1 (by have := (setP_mem hV.goal hx).2; omega))) (.inr rfl) rfl rfl rfl rfl (Les.refl _)) ?_; refine .sq <| .cond rfl (fun c31 => ?_) (fun c31 => ?_)
  ·have hB : ¬ plB t s := fun h => by obtain ⟨q, hq, hq2⟩ := List.any_eq_true.1 c31; have := h q hq; simp at hq2; omega
   obtain ⟨y1, y2⟩ := plY_f (t := t) (s := s) (fun h => hB h.2)
   refine .g <| .r <| .x (.bd pl28 zc28) ?_; refine .a ?_; refine .a ?_; refine .sb vs28 ?_; exact .sq <| .t <| .t <| .ret rfl (.tmp rfl <| .tmp rfl <| .cellN rfl rfl vs28 <| .nil) rfl (Le.t (.cons (y1 ▸ Le.nil 1) <| .cons (Le.bo y2.symm) <| .cons (Le.flt h0.symm) <| .nil))
  ·have hB : plB t s := fun q hq => Int.not_lt.1 fun hlt => (by rw [List.any_eq_true.2 ⟨q, hq, decide_eq_true hlt⟩] at c31; cases c31)
   obtain ⟨y1, y2⟩ := plY_t (t := t) (s := s) ⟨h0, hB⟩
   obtain ⟨hSK, hSp⟩ := sp_spec hV hs
   have hso : ∀ p : Int, 0 ≤ p → p < t.facts → nth (spF t s) p < t.ops.length := fun p p0 p1 => Int.not_le.1 fun h => (by obtain ⟨o, e, ho, _⟩ := hSK.s p p0 p1 (by show 0 ≤ nth (spF t s) p; omega); have e : nth (spF t s) p = o := e; omega)
   have hgr := set_rng hV.goal
   have hgl := setP_len hV.goal hf0.2
   refine .p <| .z <| .al 10 zc22 ?_; refine .z <| .x (.f fo25_3) ?_; refine .x (.l vs23) ?_; refine .x (.n es23) ?_; refine .mk 36 es75 ze75 bye75 ?_; refine .al 11 zc75 ?_; refine .sb vs75 ?_; refine .z <| .al 12 zc76 ?_; refine .sq <| .g <| .freezeR 2 rfl rfl ?_; refine .rawS 2 1002 rfl rfl (fun vt => ?_); refine .rawBox 9 1001 rfl rfl (fun vs_ => ?_); refine .pin0 200 ?_; refine .pinBox 200 9 (l := [vs_]) rfl rfl rfl (by decide) (fun bs_ t1_ h1_ => ?_); refine .pinOwn0 200 36 (l := bv (List.replicate t.ops.length false)) rfl (by simp [bv]; rfl) (by decide) (fun da_ db_ dc_ dt_ F_ g1_ g2_ hF_ => ?_); refine .pinBox 200 11 (l := [.slice da_ (bv (List.replicate t.ops.length false)).length dc_]) rfl rfl rfl (by decide) (fun bd_ t2_ h2_ => ?_); refine .pinBox 200 12 (l := [.nilFunc]) rfl rfl rfl (by decide) (fun ba_ t3_ h3_ => ?_); refine .pinBox 200 10 (l := [.slice none 0 0]) rfl rfl rfl (by decide) (fun bp_ t4_ h4_ => ?_)
   obtain ⟨hst, hg1⟩ := acM_start hF_ h2_ h3_ h4_ (.func (.func 37) #[] ([ptr bs_ 0, ptr bd_ 0, vt, ptr ba_ 0, ptr bp_ 0]).toArray)
   have hg0 : AgOk (Ag.mk bs_ vs_ bd_ da_ db_ dc_ dt_ ba_ .nilFunc bp_ t1_ t2_ t3_ t4_ 4 3) t.ops.length := ⟨hg1.a1, hg1.a2, hg1.a3, hg1.a4, hg1.a5, hg1.a6, hg1.d, hg1.e⟩
   refine .pinEq (h := 200) rfl hst ?_; refine .r <| .x (OpSem.mkFv rfl rfl (fun H => rfl)) ?_; refine .ofSt0' (OpSt.storev (h := 200) rfl rfl rfl vs76 (acM_3 hg0) (by simp) rfl (acM_fv hg0)) rfl rfl rfl ?_; refine .sq <| .g <| .g <| .toDat 2 1002 rfl rfl ?_; refine .r <| .x (OpSem.fieldp rfl rfl fo25_2) ?_; refine .x (.l1 vs22) ?_; refine .x (.n es22) ?_; refine .m ?_; refine .sq <| .k <| .loop (X := (Nat × Plc)) (fun q => q.1 ≤ t.goal.length ∧ AcOk (Ag.mk bs_ vs_ bd_ da_ db_ dc_ dt_ ba_ (.func (.func 37) #[] ([ptr bs_ 0, ptr bd_ 0, vt, ptr ba_ 0, ptr bp_ 0]).toArray) bp_ t1_ t2_ t3_ t4_ 4 3) (acG t s q.1) q.2) (fun q => [(6, .r 6 0), (10, .d (.v (ptr bp_ 0))), (12, .d (.v (ptr ba_ 0))), (39, .d (ints t.goal)), (40, I (t.goal.length)), (41, I ((q.1 : Int)))]) (fun q => [(200, .any (pinK (acM (Ag.mk bs_ vs_ bd_ da_ db_ dc_ dt_ ba_ (.func (.func 37) #[] ([ptr bs_ 0, ptr bd_ 0, vt, ptr ba_ 0, ptr bp_ 0]).toArray) bp_ t1_ t2_ t3_ t4_ 4 3) (acG t s q.1) q.2))), (1001, .fr (datS vs_ (.d (ints (spF t s))))), (1002, .fr (datS vt (.p [.v (.int .i64 t.facts), ints t.ini, ints t.goal, sopsD t.ops]))), (6, .box [I (0), I (0)])]) (fun q => t.goal.length - q.1) (0, none) ⟨by simp, fun _ => rfl, fun c cap tl h => by cases h⟩ ?_ ?_
   ·exact .p5 <| .slot rfl (Le.of_eq (by simp)) <| .all
   ·rintro q ⟨hq1, hq2⟩
    have hq3 := acK_n hV hso (f := t.ops.length + 1) hgr (x := (List.replicate t.ops.length false, [])) (by simp) hq1
    change (acG t s q.1).1.length = _ ∧ cntF (acG t s q.1).1 ≤ _ ∧ (acG t s q.1).2.length + cntF (acG t s q.1).1 ≤ _ at hq3
    simp only [cntF_rep, List.length_nil] at hq3
    refine .g <| .r <| .x (.b blss) ?_; refine .sq <| .g <| .cond rfl (fun c42 => ?_) (fun c42 => ?_)
    ·have hkl : q.1 < t.goal.length := by simpa using c42
     have hpk := hgr q.1 hkl
     refine .p <| .g <| .g <| .k <| .g <| .r <| .x (.i es22) ?_; refine .x (.l1 vs3) ?_; refine .a ?_; refine .y <| .x (OpSem.loadv (h := 200) rfl rfl rfl vs76 (acM_3 hg1) rfl) ?_; refine .m ?_; refine .callQ (h := 200) (k1 := 1001) (k2 := 1002) (args := [.int .i64 (nth t.goal q.1)]) (caps := [ptr bs_ 0, ptr bd_ 0, vt, ptr ba_ 0, ptr bp_ 0]) (achieve_Q (Ag.mk bs_ vs_ bd_ da_ db_ dc_ dt_ ba_ (.func (.func 37) #[] ([ptr bs_ 0, ptr bd_ 0, vt, ptr ba_ 0, ptr bp_ 0]).toArray) bp_ t1_ t2_ t3_ t4_ 4 3) t s hg1 rfl rfl vt rfl hV hs (t.ops.length + 1) (nth t.goal q.1) (acG t s q.1) q.2 hpk.1 hpk.2 hq3.1 (by omega) (by omega) hq2) rfl rfl rfl (by decide) rfl rfl (fun H => rfl) rfl rfl rfl ?_
     rintro _ ⟨pl2, rfl, hpl2⟩
     refine .n <| .n <| .y <| .x .ad ?_; refine .m ?_; refine .n <| .again (q.1 + 1, pl2) ⟨by simp only []; omega, hpl2⟩ ?_ (by simp only []; omega)
     exact .p5 <| .slot rfl (Le.of_eq (by simp)) <| .all
    ·have hkl : q.1 = t.goal.length := by simp at c42; omega
     refine .u <| .u <| .u <| .b <| .z <| .x (OpSem.loadv (h := 200) rfl rfl rfl vs22 (acM_4 hg1) rfl) ?_; refine .x (.bd pl28 zc28) ?_; refine .a ?_; refine .a ?_; refine .freezeP 200 4 rfl rfl (fun O w h H => acM_rep hq2 h H) ?_; refine .sb vs28 ?_; exact .sq <| .t <| .ret rfl (.tmp rfl <| .tmp rfl <| .cellN rfl rfl vs28 <| .nil) rfl (Le.t (.cons (Le.of_eq (by rw [y1, hkl]; rfl)) <| .cons (Le.bo y2.symm) <| .cons (Le.flt h0.symm) <| .nil))
end Go.Proofs.YthjmgcopfipabaaGreat
end

section
namespace Go.Eng
open Go.RowKit (Below)
def hfree : Nat → S → Bool
 | 0, _ => false
 | n + 1, s => match s with
  | .d _ | .p _ => true
  | .g cs => cs.all (hfree n)
  | _ => false
theorem hfree_rep {O : Nat → Nat} {H H' : Nat → Value} {w : World} : ∀ (n : Nat) {v : Value} {s : S}, hfree n s = true → RepS O H w v s → RepS O H' w v s
 | 0, _, _, h, _ => by simp [hfree] at h
 | n + 1, v, s, h, hr => by
  cases hr with
  | d x y hd => exact .d _ _ hd
  | p b off cs y hO hy hr => exact .p b off cs y hO hy hr
  | g xs ss hl h1 hg =>
   simp only [hfree] at h
   exact .g xs ss hl h1 fun i x s hx hs => hfree_rep n (List.all_eq_true.1 h s (List.mem_of_getElem? hs)) (hg i x s hx hs)
  | _ => simp [hfree] at h
structure DoesT (P : Program) (f : Nat) (args : List S) (res : Value) (F F' : PF) : Prop where
 can : ∀ xs w, (callFunc f xs).run P w = .ok (.enter f xs) w
 dom : ∀ b, F b = none ↔ F' b = none
 run : ∀ (O : Nat → Nat) (w : World) (xs : List Value), xs.length = args.length → (∀ (i : Nat) (x : Value) (s : S), xs[i]? = some x → args[i]? = some s → RepS O zH w x s) → (∀ b, F b ≠ none → O b ≠ 0) → Pins F w →
  Calls P f xs.toArray w fun en w' => en = .returned res ∧ TouchP F w w' ∧ Pins F' w'
section
variable {P : Program} {N : Nat} {w0 : World} {O0 : Nat → Nat} {ops : Array Oper} {Q : Post} {e : Env} {M : Mem} {rest : List Oper} {o : Oper} {s : S} {B : Nat} {c : Code}
theorem DoesT.of_body {f : Nat} {args : List S} {res : Value} {F F' : PF} {fn : Func} {c : Code} (hf : P.funcs[f]? = some fn) (hb : fn.body = some c) (hN : fn.ntmps = N) (hlen : args.length ≤ N)
  (can : ∀ xs w, (callFunc f xs).run P w = .ok (.enter f xs) w) (dom : ∀ b, F b = none ↔ F' b = none)
  (h : ∀ (O0 : Nat → Nat) (Oc : Nat → Nat) (W : World), Tr P N { W with heap := #[] } O0 (entry 0 args) [(0, .any (pinK F)), (1000, .fr (frK Oc W))] c (bodyPost P fn (RetP Oc W res F'))) : DoesT P f args res F F' := by
 refine ⟨can, dom, fun O w xs hxl hx hO hv => ?_⟩
 obtain ⟨Oc, hOc⟩ : ∃ Oc : Nat → Nat, Oc = fun b => if (F b).isSome then 1 else 0 := ⟨_, rfl⟩
 have hk : Keeps O w Oc w := fun b _ h0 => ⟨by
  rw [hOc]; simp only []
  rw [if_neg (fun hs => hO b (by intro e; rw [e] at hs; cases hs) h0)], rfl⟩
 refine (calls_of_wp hf hb (h Oc Oc w Oc zH _ w ⟨rfl, ?_, ⟨rfl, rfl, rfl, Nat.zero_le _, fun k hk => absurd hk (Nat.not_lt_zero k)⟩, fun b hb => absurd hb (Nat.not_lt_zero b), fun n s hs => ?_, fun n m hm => ?_⟩)).mono ?_
 ·simp; omega
 ·obtain ⟨_, hn⟩ := look_entry _ 0 n s hs
  simp only [Nat.sub_zero] at hn
  have hlt : n < xs.length := by rw [hxl]; exact (List.getElem?_eq_some_iff.1 hn).1
  refine ⟨xs[n], ?_, (hx n _ s (List.getElem?_eq_getElem hlt) hn).keeps hk⟩
  rw [Array.getElem?_append_left (by simpa using hlt)]
  simp [hlt]
 ·rcases look_cons hm with ⟨rfl, rfl⟩ | ⟨_, hm⟩
  ·intro b T l hF
   exact ⟨Nat.zero_le _, by rw [hOc]; simp [hF], hv b T l hF⟩
  ·rcases look_cons hm with ⟨rfl, rfl⟩ | ⟨_, hm⟩
   ·exact fun b _ h => ⟨h, rfl⟩
   ·cases hm
 ·rintro en w' ⟨rfl, hos, htp, hout, hp, O', hk'⟩
  have hex : ∀ b, b < w.heap.size → b < w'.heap.size := fun b hb => by
   cases hF : F b with
   | none =>
    have := (hk' b hb (by rw [hOc]; simp [hF])).2
    rw [Array.getElem?_eq_getElem hb] at this
    exact (Array.getElem?_eq_some_iff.1 this).1
   | some p =>
    cases hF' : F' b with
    | none => rw [(dom b).2 hF'] at hF; cases hF
    | some q => exact (Array.getElem?_eq_some_iff.1 (hp b q.1 q.2 hF')).1
  refine ⟨rfl, ⟨hos, htp, hout, ?_, fun b hb hn => (hk' b hb (by rw [hOc]; simp [hn])).2⟩, hp⟩
  rcases Nat.eq_zero_or_pos w.heap.size with h0 | h0
  ·omega
  ·have := hex (w.heap.size - 1) (by omega); omega
theorem runT {a : Act} {O : Nat → Nat} {H : Nat → Value} {w : World} {as_ : Array Operand} {l : List S} (hs : ∀ x, x ∈ as_ → ∀ s, opS e x = some s → RepS O H w (a.eval x) s) (ha : opsS e as_.toList = some l) (hf : l.all (hfree 9) = true) :
  (as_.toList.map a.eval).length = l.length ∧ ∀ (i : Nat) (x : Value) (s : S), (as_.toList.map a.eval)[i]? = some x → l[i]? = some s → RepS O zH w x s := by
 obtain ⟨a1, a2⟩ := opsS_rep (O := O) (H := H) (w := w) (a := a) as_.toList l ha (fun x hx s hs' => hs x (by simpa using hx) s hs')
 exact ⟨by simpa using a1, fun i x s hx hs' => hfree_rep 9 (List.all_eq_true.1 hf s (List.mem_of_getElem? hs')) (a2 i x s hx hs')⟩
theorem OpSt.callT {h fn : Nat} {g : Operand} {as_ : Array Operand} {ts : Array TypeId} {args : List S} {res : Value} {F F' : PF} (hspec : DoesT P fn args res F F')
  (ho : o.op = .call { callee := .value g, args := as_, argTypes := ts }) (hg : opS e g = some (.f fn [] [])) (ha : opsS e as_.toList = some args) (hf : args.all (hfree 9) = true) :
  OpSt P B o e h (.any (pinK F)) (.any (pinK F')) (.d (.v res)) := by
 intro O H a w hB hs hm K hK
 have hg' : a.eval g = .func (.func fn) #[] #[] := valS_rep 9 (hs g (by simp [ho, Op.operands, Call.operands]) _ hg) rfl
 obtain ⟨b1, b2⟩ := runT (a := a) (O := O) (H := H) (w := w) (as_ := as_) (fun x hx s hs' => hs x (by simp only [ho, Op.operands, Call.operands]; simpa using .inr hx) s hs') ha hf
 unfold Oper.wp
 rw [run_callW hspec.can ho hg' rfl]
 have hdom : ∀ b, F b ≠ none → B ≤ b ∧ O b = h + 1 := fun b hb => by
  obtain ⟨T, l, hF⟩ := pf_ne hb
  exact ⟨(hm b T l hF).1, (hm b T l hF).2.1⟩
 refine (hspec.run O w _ b1 b2 (fun b hb => by have := (hdom b hb).2; omega) (fun b T l hF => (hm b T l hF).2.2)).mono ?_
 rintro en w' ⟨rfl, ht, hv'⟩
 refine hK w' _ ⟨fun _ _ => rfl, fun b hb hne => ht.same b hb (Classical.byContradiction fun hn => hne h rfl (hdom b hn).2), fun _ _ => rfl⟩ ⟨ht.os, ht.tape, ht.output, ht.size, fun b hb => ht.same b (by omega) (Classical.byContradiction fun hn => by have := (hdom b hn).1; omega)⟩ (fun b T l hF => ?_) (.d _ _ (.v _))
 obtain ⟨h1, h2⟩ := hdom b (fun hn => by rw [(hspec.dom b).1 hn] at hF; cases hF)
 exact ⟨h1, h2, hv' b T l hF⟩
theorem OpSem.callT {h fn : Nat} {g : Operand} {as_ : Array Operand} {ts : Array TypeId} {args : List S} {res : Value} {F : PF} (hspec : DoesT P fn args res F F) (hM : look M h = some (.any (pinK F)))
  (ho : o.op = .call { callee := .value g, args := as_, argTypes := ts }) (hg : opS e g = some (.f fn [] [])) (ha : opsS e as_.toList = some args) (hf : args.all (hfree 9) = true) :
  OpSem P B o e M (.d (.v res)) none := by
 intro O H a w hB hs hmm K hK
 have hm := hmm h _ hM
 have hg' : a.eval g = .func (.func fn) #[] #[] := valS_rep 9 (hs g (by simp [ho, Op.operands, Call.operands]) _ hg) rfl
 obtain ⟨b1, b2⟩ := runT (a := a) (O := O) (H := H) (w := w) (as_ := as_) (fun x hx s hs' => hs x (by simp only [ho, Op.operands, Call.operands]; simpa using .inr hx) s hs') ha hf
 unfold Oper.wp
 rw [run_callW hspec.can ho hg' rfl]
 refine (hspec.run O w _ b1 b2 (fun b hb => by
  obtain ⟨T, l, hF⟩ := pf_ne hb
  have := (hm b T l hF).2.1; omega) (fun b T l hF => (hm b T l hF).2.2)).mono ?_
 rintro en w' ⟨rfl, ht, hv'⟩
 have hsame : ∀ b, b < w.heap.size → w'.heap[b]? = w.heap[b]? := fun b hb => by
  cases hF : F b with
  | none => exact ht.same b hb hF
  | some p => rw [hv' b p.1 p.2 hF, (hm b p.1 p.2 hF).2.2]
 exact hK O H w' _ ⟨fun _ _ => rfl, fun b hb _ => hsame b hb, fun _ _ => rfl⟩ ⟨ht.os, ht.tape, ht.output, ht.size, fun b hb => hsame b (by omega)⟩ (.d _ _ (.v _)) (fun h m hn => by cases hn)
end
section
variable {P : Program} {N : Nat} {w0 : World} {O0 : Nat → Nat} {ops : Array Oper} {Q : Post} {e : Env} {M : Mem} {rest : List Oper}
theorem TrOps.pinRow (h h' : Nat) {F : PF} {T : Nat} {l : List Value} (hM : look M h = some (.any (pinK F))) (hM' : look M h' = some (.own 1 T (l.map fun v => [D.v v]))) (hh : h' ≠ h) (hl : l ≠ [])
  (hc : ∀ (b cap : Nat) (tl : List Value), F b = none → l.length ≤ cap → cap ≤ maxLen → TrOps P N w0 O0 ops Q (fzE h' (.v (slc b l.length cap)) e) ((h, .any (pinK (updF F b T (l ++ tl)))) :: fzM h' (.v (slc b l.length cap)) M) rest) : TrOps P N w0 O0 ops Q e M rest := by
 intro O H a w hst
 obtain ⟨b, cap, xs, hH, hB, hO, hb, hlc, hcm, hsz, hw, hcc⟩ := (hst.mem h' _ hM').ownSome (by rw [List.length_map]; exact List.length_pos_iff.2 hl)
 simp only [List.length_map] at hH hlc
 have hx : xs.toList.take l.length = l := by
  refine List.ext_getElem (by simp; omega) fun i h1 h2 => ?_
  obtain ⟨x, q1, q2, _⟩ := hcc i [.v l[i]] 0 (.v l[i]) (by simp [h2]) rfl
  cases q2 with
  | v _ =>
   have e1 : i * 1 + 0 = i := by omega
   rw [e1] at q1
   simp [Array.getElem?_eq_some_iff.1 q1 |>.2]
 have hxs : (l ++ xs.toList.drop l.length).toArray = xs := by
  apply Array.ext'
  simp only [List.toList_toArray]
  conv => rhs; rw [← List.take_append_drop l.length xs.toList, hx]
 obtain ⟨hn, hp⟩ := pinK_add (hst.mem h _ hM) (l := l ++ xs.toList.drop l.length) hB (by rw [hxs]; exact hb) (by rw [hO]; omega)
 have hk : Keeps O w (setL O b (h + 1)) w := setL_keeps (by rw [hO]; omega)
 have hst2 := fz_st (h := h') (dd := .v (slc b l.length cap)) hst hk (by rw [hH]; exact .v _) (fun c hc => by unfold setL; rw [if_neg (by omega)]) (fun c h2 hne h3 => by unfold setL; rw [if_neg (fun e => by subst e; rw [hO] at h3; omega)]; exact h3)
 refine hc b cap (xs.toList.drop l.length) hn hlc hcm _ H a w (hst2.memSet ?_)
 have : H h = H h := rfl
 exact hp
end
abbrev Mxx := List (List Int)
abbrev Bk := Nat × Nat × List Value
structure Pk where
 a : Option Addr
 r : Nat
 rc : Nat
 rt : List Value
 TR : Nat
 TI : Nat
def ptH (g : Pk) (n : Nat) : Value := .slice g.a n g.rc
def hdL (n : Nat) (L : List Bk) : List Value := (L.map fun x => slc x.1 n x.2.1) ++ List.replicate (n - L.length) (.slice none 0 0)
noncomputable def pqF (g : Pk) (n : Nat) (L : List Bk) (v : Mxx) : PF := fun b => if g.a ≠ none ∧ b = g.r then some (g.TR, hdL n L ++ g.rt)
 else if b ∈ L.map (·.1) then some (g.TI, iv (nth v (((L.map (·.1)).idxOf b : Nat) : Int)) ++ (nth L (((L.map (·.1)).idxOf b : Nat) : Int)).2.2) else none
structure PtOk (g : Pk) (n : Nat) (L : List Bk) (v : Mxx) : Prop where
 a : n ≠ 0 → g.a = some ⟨g.r, 0, none⟩
 nd : (L.map (·.1)).Nodup
 r : g.a ≠ none → g.r ∉ L.map (·.1)
 ll : L.length ≤ n
 vl : v.length = L.length
 vw : ∀ i : Nat, i < v.length → (nth v i).length = n
 c : ∀ x, x ∈ L → n ≤ x.2.1 ∧ x.2.1 ≤ maxLen
 m : n ≤ 24
 rc : n ≤ g.rc ∧ g.rc ≤ maxLen
section
variable {g : Pk} {n : Nat} {L : List Bk} {v v' : Mxx}
theorem PtOk.an (h : PtOk g n L v) (hn : 0 < n) : g.a ≠ none := by rw [h.a (by omega)]; simp
theorem pt_r (hn : g.a ≠ none) : pqF g n L v g.r = some (g.TR, hdL n L ++ g.rt) := by simp [pqF, hn]
theorem Lat (h : PtOk g n L v) {i : Nat} (hi : i < L.length) : (nth L (i : Int)).1 ∈ L.map (·.1) ∧ (L.map (·.1)).idxOf (nth L (i : Int)).1 = i := by
 have e : (nth L (i : Int)).1 = (L.map (·.1))[i]'(by simpa using hi) := by rw [nth_eq hi]; simp
 rw [e]
 exact ⟨List.getElem_mem _, idxOf_nd h.nd _⟩
theorem pt_row (h : PtOk g n L v) {i : Nat} (hi : i < L.length) : pqF g n L v (nth L (i : Int)).1 = some (g.TI, iv (nth v (i : Int)) ++ (nth L (i : Int)).2.2) := by
 obtain ⟨h1, h2⟩ := Lat h hi
 unfold pqF
 rw [if_neg (fun q => h.r q.1 (by rw [← q.2]; exact h1)), if_pos h1, h2]
theorem pt_dom (b : Nat) : pqF g n L v b = none ↔ pqF g n L v' b = none := by
 unfold pqF
 split
 ·simp
 ·split <;> simp
theorem pt_set (h : PtOk g n L v) {i j : Nat} {x : Int} (hi : i < L.length) (hj : j < n) : updF (pqF g n L v) (nth L (i : Int)).1 g.TI ((iv (nth v (i : Int)) ++ (nth L (i : Int)).2.2).set (0 + j) (.int .i64 x)) = pqF g n L (v.set i ((nth v (i : Int)).set j x)) := by
 obtain ⟨h1, h2⟩ := Lat h hi
 have hvi : i < v.length := by rw [h.vl]; exact hi
 have hw := h.vw i hvi
 funext b
 unfold updF
 by_cases hb : b = (nth L (i : Int)).1
 ·subst hb
  rw [if_pos rfl]
  unfold pqF
  rw [if_neg (fun q => h.r q.1 (by rw [← q.2]; exact h1)), if_pos h1, h2, nth_set (by omega) (by omega), if_pos (by omega), Nat.zero_add, List.set_append_left _ _ (by simp [iv]; omega)]
  simp [iv, List.map_set]
 ·rw [if_neg hb]
  unfold pqF
  split
  ·rfl
  ·split
   ·rename_i hm
    have hk : (L.map (·.1)).idxOf b < L.length := by simpa using List.idxOf_lt_length_iff.2 hm
    have hne : (L.map (·.1)).idxOf b ≠ i := fun e => hb (by
     have h3 : (L.map (·.1))[(L.map (·.1)).idxOf b]'(by simpa using hk) = b := List.getElem_idxOf _
     rw [nth_eq hi]
     simp only [e] at h3
     rw [← h3]; simp)
    rw [nth_set (by omega) (by rw [h.vl]; omega), if_neg (by omega)]
   ·rfl
theorem PtOk.set (h : PtOk g n L v) {i j : Nat} {x : Int} (hi : i < L.length) : PtOk g n L (v.set i ((nth v (i : Int)).set j x)) := by
 refine ⟨h.a, h.nd, h.r, h.ll, by rw [List.length_set]; exact h.vl, fun k hk => ?_, h.c, h.m, h.rc⟩
 rw [List.length_set] at hk
 rw [nth_set (by omega) (by omega)]
 split
 ·rw [List.length_set]; exact h.vw i (by rw [h.vl]; exact hi)
 ·exact h.vw k hk
theorem hd_at {i : Nat} (hi : i < L.length) {tl : List Value} : (hdL n L ++ tl)[0 + i]? = some (slc (nth L (i : Int)).1 n (nth L (i : Int)).2.1) := by
 unfold hdL
 rw [Nat.zero_add, List.append_assoc, List.getElem?_append_left (by simpa using hi), List.getElem?_map, List.getElem?_eq_getElem hi, nth_eq hi]; rfl
theorem hd_len (h : L.length ≤ n) : (hdL n L).length = n := by simp [hdL]; omega
theorem pt_add (h : PtOk g n L v) {b cap m : Nat} {tl : List Value} {row : List Int} (hL : L.length < n) (hb : pqF g n L v b = none) (hm : m = n) :
  updF (updF (pqF g n L v) b g.TI (iv row ++ tl)) g.r g.TR ((hdL n L ++ g.rt).set (0 + L.length) (slc b m cap)) = pqF g n (L ++ [(b, cap, tl)]) (v ++ [row]) := by
 subst hm
 have ha := h.an (by omega)
 have hbr : b ≠ g.r := fun e => by rw [e, pt_r ha] at hb; cases hb
 have hbL : b ∉ L.map (·.1) := fun hm => by
  unfold pqF at hb
  rw [if_neg (fun q => hbr q.2), if_pos hm] at hb; cases hb
 have hvl := h.vl
 funext c
 unfold updF
 by_cases hc : c = g.r
 ·subst hc
  rw [if_pos rfl, pt_r ha, Nat.zero_add, List.set_append_left _ _ (by rw [hd_len h.ll]; exact hL)]
  congr 3
  unfold hdL
  rw [List.set_append_right _ _ (by simp)]
  simp only [List.length_map, Nat.sub_self, List.map_append, List.map_cons, List.map_nil, List.length_append, List.length_singleton, List.append_assoc]
  congr 1
  obtain ⟨d, hd⟩ : ∃ d, m - L.length = d + 1 := ⟨m - L.length - 1, by omega⟩
  have hd2 : m - (L.length + 1) = d := by omega
  rw [hd, hd2, List.replicate_succ]; rfl
 ·rw [if_neg hc]
  by_cases hcb : c = b
  ·subst hcb
   rw [if_pos rfl]
   unfold pqF
   have hx : ((L ++ [(c, cap, tl)]).map (·.1)).idxOf c = L.length := by
    rw [List.map_append, List.idxOf_append, if_neg hbL]; simp
   rw [if_neg (fun q => hc q.2), if_pos (by simp), hx]
   have e1 : nth (v ++ [row]) (L.length : Int) = row := by rw [nth_eq (by simp; omega), List.getElem_append_right (by omega)]; simp
   have e2 : nth (L ++ [(c, cap, tl)]) (L.length : Int) = (c, cap, tl) := by rw [nth_eq (by simp), List.getElem_append_right (by omega)]; simp
   rw [e1, e2]
  ·rw [if_neg hcb]
   unfold pqF
   rw [if_neg (fun q : g.a ≠ none ∧ c = g.r => hc q.2), if_neg (fun q : g.a ≠ none ∧ c = g.r => hc q.2)]
   by_cases hm : c ∈ L.map (·.1)
   ·have hk : (L.map (·.1)).idxOf c < L.length := by simpa using List.idxOf_lt_length_iff.2 hm
    have hx : ((L ++ [(b, cap, tl)]).map (·.1)).idxOf c = (L.map (·.1)).idxOf c := by rw [List.map_append, List.idxOf_append, if_pos hm]
    rw [if_pos hm, if_pos (by rw [List.map_append]; exact List.mem_append_left _ hm), hx]
    rw [nth_eq (by omega), nth_eq hk, nth_eq (by simp; omega), nth_eq (by simp; omega), List.getElem_append_left (by omega), List.getElem_append_left hk]
   ·rw [if_neg hm, if_neg (by rw [List.map_append]; simp only [List.map_cons, List.map_nil, List.mem_append, List.mem_singleton]; exact fun q => q.elim hm hcb)]
theorem PtOk.add (h : PtOk g n L v) {b cap : Nat} {tl : List Value} {row : List Int} (hL : L.length < n) (hb : pqF g n L v b = none) (hr : row.length = n) (hc : n ≤ cap ∧ cap ≤ maxLen) : PtOk g n (L ++ [(b, cap, tl)]) (v ++ [row]) := by
 have ha := h.an (by omega)
 have hbr : b ≠ g.r := fun e => by rw [e, pt_r ha] at hb; cases hb
 have hbL : b ∉ L.map (·.1) := fun hm => by
  unfold pqF at hb
  rw [if_neg (fun q => hbr q.2), if_pos hm] at hb; cases hb
 have hvl := h.vl
 refine ⟨h.a, ?_, fun hn hm => ?_, by simp; omega, by simp; omega, fun i hi => ?_, fun x hx => ?_, h.m, h.rc⟩
 ·rw [List.map_append, List.nodup_append]
  refine ⟨h.nd, by simp, fun x hx y hy => ?_⟩
  simp only [List.map_cons, List.map_nil, List.mem_singleton] at hy
  rw [hy]; exact fun e => hbL (by rw [← e]; exact hx)
 ·rw [List.map_append] at hm
  simp only [List.map_cons, List.map_nil, List.mem_append, List.mem_singleton] at hm
  exact hm.elim (h.r hn) fun e => hbr e.symm
 ·rw [nth_eq hi]
  by_cases hlt : i < v.length
  ·rw [List.getElem_append_left hlt, ← nth_eq hlt]; exact h.vw i hlt
  ·rw [List.getElem_append_right (by omega)]; simp [hr]
 ·rcases List.mem_append.1 hx with hx | hx
  ·exact h.c x hx
  ·rw [List.mem_singleton] at hx; rw [hx]; exact hc
theorem pt_start {a : Option Addr} {r rc TR TI n : Nat} {rt : List Value} {F : PF} (h24 : n ≤ 24) (g1 : n ≤ rc) (g2 : rc ≤ maxLen)
  (hF : (a = none ∧ List.replicate n (Value.slice none 0 0) = [] ∧ F = noF) ∨ (a = some ⟨r, 0, none⟩ ∧ noF r = none ∧ F = updF noF r TR (List.replicate n (Value.slice none 0 0) ++ rt))) :
  F = pqF ⟨a, r, rc, rt, TR, TI⟩ n [] [] ∧ PtOk ⟨a, r, rc, rt, TR, TI⟩ n [] [] := by
 rcases hF with ⟨rfl, h2, rfl⟩ | ⟨rfl, _, rfl⟩
 ·have hn : n = 0 := by have := congrArg List.length h2; simpa using this
  refine ⟨?_, ⟨fun h => absurd hn h, by simp, fun h => absurd rfl h, by simp, rfl, fun i hi => by simp at hi, fun x hx => by simp at hx, h24, ⟨g1, g2⟩⟩⟩
  funext b; simp [pqF]
 ·refine ⟨?_, ⟨fun _ => rfl, by simp, fun _ => by simp, by simp, rfl, fun i hi => by simp at hi, fun x hx => by simp at hx, h24, ⟨g1, g2⟩⟩⟩
  funext b
  unfold updF pqF hdL
  by_cases hb : b = r
  ·simp [hb]
  ·simp [hb]
theorem pt_rep (hk : PtOk g n L v) (hL : L.length = n) {O : Nat → Nat} {w : World} (h : ∀ b T l, pqF g n L v b = some (T, l) → O b = 0 ∧ w.heap[b]? = some (.cells l.toArray T (0, 0))) (H : Nat → Value) : RepS O H w (ptH g n) (.d (rows v)) := by
 refine .d _ _ ?_
 have hvl : v.length = n := by rw [hk.vl, hL]
 by_cases hn : n = 0
 ·have hv : v = [] := List.eq_nil_of_length_eq_zero (by omega)
  rw [hv, hn]; unfold ptH; rw [← hn]; exact hn ▸ RepD.e g.a g.rc 1 hk.rc.2
 ·have ha := hk.a hn
  obtain ⟨r1, r2⟩ := h _ _ _ (pt_r (v := v) (L := L) (n := n) (hk.an (by omega)))
  have hl : (v.map fun r => [ints r]).length = n := by simpa using hvl
  have := RepD.s (O := O) (w := w) g.r 0 g.rc 1 (v.map fun r => [ints r]) (fun i => slc (nth L (i : Int)).1 n (nth L (i : Int)).2.1) (by rw [hl]; exact hk.rc.1) hk.rc.2 (fun r hr => by obtain ⟨x, _, rfl⟩ := List.mem_map.1 hr; rfl) (fun _ _ _ _ _ _ => r1) (fun i r j d hi hj => ?_) (fun i r j d hi hj => ?_)
  ·rw [hl] at this; unfold ptH; rw [ha]; exact this
  all_goals
   rw [List.getElem?_map, Option.map_eq_some_iff] at hi
   obtain ⟨x, hx, rfl⟩ := hi
   obtain ⟨hi', hxe⟩ := List.getElem?_eq_some_iff.1 hx
   obtain rfl : j = 0 := by have := (List.getElem?_eq_some_iff.1 hj).1; simp at this; exact this
   simp only [List.getElem?_cons_zero, Option.some.injEq] at hj
   subst hj
   have e1 : i * 1 + 0 = i := by omega
   have hiL : i < L.length := by omega
   rw [e1]
  ·refine cellOf r2 ?_
   simp only [List.getElem?_toArray]
   exact hd_at hiL
  ·obtain ⟨b1, b2⟩ := h _ _ _ (pt_row hk hiL)
   have hw := hk.vw i hi'
   have hxn : nth v (i : Int) = x := by rw [nth_eq hi', hxe]
   rw [hxn] at b2 hw
   obtain ⟨tl2, ht2⟩ : ∃ tl2, (nth L (i : Int)).2.2 = tl2 := ⟨_, rfl⟩
   rw [ht2] at b2
   have hc := hk.c _ (by rw [nth_eq hiL]; exact List.getElem_mem hiL : nth L (i : Int) ∈ L)
   have hl2 : (x.map fun v => [D.v (.int .i64 v)]).length = n := by simpa using hw
   have := RepD.s (O := O) (w := w) (nth L (i : Int)).1 0 (nth L (i : Int)).2.1 1 (x.map fun v => [D.v (.int .i64 v)]) (fun i => .int .i64 (nth x i)) (by rw [hl2]; exact hc.1) hc.2 (fun r hr => by obtain ⟨u, _, rfl⟩ := List.mem_map.1 hr; rfl) (fun _ _ _ _ _ _ => b1) (fun i r j d hi hj => ?_) (fun i r j d hi hj => ?_)
   ·rw [hl2] at this; exact this
   all_goals
    rw [List.getElem?_map, Option.map_eq_some_iff] at hi
    obtain ⟨u, hu, rfl⟩ := hi
    obtain ⟨hi3, hue⟩ := List.getElem?_eq_some_iff.1 hu
    obtain rfl : j = 0 := by have := (List.getElem?_eq_some_iff.1 hj).1; simp at this; exact this
    simp only [List.getElem?_cons_zero, Option.some.injEq] at hj
    subst hj
    have e8 : i * 1 + 0 = i := by omega
    rw [e8]
   ·refine cellOf b2 ?_
    have := iv_at2 (l := x) (tl := tl2) (j := (i : Int)) (by omega) (by omega)
    rw [Int.toNat_natCast] at this
    simpa using this
   ·rw [nth_eq hi3, hue]; exact .v _
end
section
variable {P : Program} {N : Nat} {B : Nat} {o : Oper} {e : Env} {M : Mem} {g : Pk} {n : Nat} {L : List Bk} {v : Mxx} {h : Nat}
theorem OpSem.ptI {t : TypeId} {x i : Operand} {kk : IntKind} {p : Int} (hk : PtOk g n L v) (ho : o.op = .indexAddr t x i) (hx : opS e x = some (.d (.v (ptH g n)))) (hi : opS e i = some (.d (.v (.int kk p)))) (ht : esz P t = some 1) (h0 : 0 ≤ p) (h1 : p < n) : OpSem P B o e M (.d (.v (ptr g.r (0 + p.toNat)))) none :=
 .idxv ho hx hi ht (hk.a (by omega)) h0 h1
theorem OpSem.ptR {t : TypeId} {x : Operand} {i : Int} (hk : PtOk g n L v) (ho : o.op = .load t x) (hx : opS e x = some (.d (.v (ptr g.r (0 + i.toNat))))) (hM : look M h = some (.any (pinK (pqF g n L v)))) (ht : vsz P t = some (false, 1)) (h0 : 0 ≤ i) (h1 : i < L.length) : OpSem P B o e M (.d (.v (slc (nth L i).1 n (nth L i).2.1))) none := by
 obtain ⟨k, rfl⟩ := Int.eq_ofNat_of_zero_le h0
 have hkl : k < L.length := by omega
 exact .loadv ho hx hM ht (pt_r (hk.an (by have := hk.ll; omega))) (hd_at hkl)
theorem OpSem.ptC {t : TypeId} {x : Operand} {i j : Int} (hk : PtOk g n L v) (ho : o.op = .load t x) (hx : opS e x = some (.d (.v (ptr (nth L i).1 (0 + j.toNat))))) (hM : look M h = some (.any (pinK (pqF g n L v)))) (ht : vsz P t = some (false, 1)) (h0 : 0 ≤ i) (h1 : i < L.length) (k0 : 0 ≤ j) (k1 : j < n) : OpSem P B o e M (.d (.v (.int .i64 (nth (nth v i) j)))) none := by
 obtain ⟨k, rfl⟩ := Int.eq_ofNat_of_zero_le h0
 have hkl : k < L.length := by omega
 have hw := hk.vw k (by rw [hk.vl]; exact hkl)
 exact .loadv ho hx hM ht (pt_row hk hkl) (iv_at2 k0 (by omega))
theorem OpSt.ptC {t : TypeId} {x y : Operand} {i j u : Int} (hk : PtOk g n L v) (ho : o.op = .store t x y) (hx : opS e x = some (.d (.v (ptr (nth L i).1 (0 + j.toNat))))) (hy : opS e y = some (.d (.v (.int .i64 u)))) (ht : vsz P t = some (false, 1)) (h0 : 0 ≤ i) (h1 : i < L.length) (k0 : 0 ≤ j) (k1 : j < n) :
  OpSt P B o e h (.any (pinK (pqF g n L v))) (.any (pinK (pqF g n L (v.set i.toNat ((nth v i).set j.toNat u))))) .u := by
 obtain ⟨k, rfl⟩ := Int.eq_ofNat_of_zero_le h0
 have hkl : k < L.length := by omega
 have hw := hk.vw k (by rw [hk.vl]; exact hkl)
 exact .storev ho hx hy ht (pt_row hk hkl) (by simp [iv]; omega) rfl (by rw [Int.toNat_natCast]; exact pt_set hk hkl (by omega))
end
end Go.Eng
end
