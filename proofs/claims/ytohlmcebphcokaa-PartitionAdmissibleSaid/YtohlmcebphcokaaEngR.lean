/- Ranks of states; the least slack and the greatest goal value over all states. -/
import Derived.Test.YtohlmcebphcokaaEngV
set_option linter.unusedVariables false
set_option linter.unusedSimpArgs false
namespace Go.Eng
open Go Go.RowKit

theorem DoesO.fresh {P : Program} {f : Nat} {args : List S} {k T : Nat} {rows : List (List D)} (h : DoesO P f args k T rows) : Does P true f args (.d (.s k rows)) :=
  ⟨h.can, fun O w xs hl hx => (h.run O w xs hl hx).mono fun en w' ⟨x, he, hb, hr⟩ => ⟨x, he, hb, by
    rcases hr with ⟨rfl, rfl⟩ | ⟨b, cap, xs', rfl, hB, hbl, hlc, hcm, hsz, hw, hc⟩
    · exact .d _ _ (.e none 0 k (by simp [maxLen]))
    · refine .d _ _ (.s b 0 cap k rows (fun n => (xs'[n]?).getD undef) hlc hcm hw (fun _ _ _ _ _ _ => by simp [freshO, Fr, hB]) (fun i r j d hi hj => ?_) (fun i r j d hi hj => ?_))
      · obtain ⟨y, hy, _⟩ := hc i r j d hi hj
        rw [cellOf hbl (by rw [Nat.zero_add]; exact hy), hy]; rfl
      · obtain ⟨y, hy, rfl, _⟩ := hc i r j d hi hj
        simp only [hy, Option.getD_some]
        exact .v _⟩⟩

def ranksTo (sizes : List Int) : Nat → Int
  | 0 => 1
  | k + 1 => ranksTo sizes k * nth sizes k
def ranks (sizes : List Int) : Int := ranksTo sizes sizes.length
theorem ranksTo_in {sizes : List Int} (h : SizesP sizes) : ∀ {k : Nat}, k ≤ sizes.length → 1 ≤ ranksTo sizes k ∧ ranksTo sizes k ≤ 6 ^ k
  | 0, _ => by simp [ranksTo]
  | k + 1, hk => by
    have ih := ranksTo_in h (k := k) (by omega)
    have hs := h k (by omega)
    simp only [ranksTo]
    constructor
    · have := Int.mul_le_mul ih.1 hs.1 (by omega) (by omega)
      omega
    · have := Int.mul_le_mul ih.2 hs.2 (by omega) (by omega)
      rw [Int.pow_succ]; exact this
theorem pow6_le {k : Nat} (h : k ≤ 8) : (6 : Int) ^ k ≤ 1679616 := by
  have : k = 0 ∨ k = 1 ∨ k = 2 ∨ k = 3 ∨ k = 4 ∨ k = 5 ∨ k = 6 ∨ k = 7 ∨ k = 8 := by omega
  rcases this with rfl | rfl | rfl | rfl | rfl | rfl | rfl | rfl | rfl <;> decide
theorem ranks_in {m : Multi} (hv : Valid m) : 1 ≤ ranks m.sizes ∧ ranks m.sizes ≤ 1679616 := by
  have h := ranksTo_in hv.sizes (Nat.le_refl _)
  have := pow6_le hv.len.2
  unfold ranks
  omega
/-- What is left of a number behind j digits. -/
def quoTo (sizes : List Int) (n : Int) : Nat → Int
  | 0 => n
  | j + 1 => quoTo sizes n j / nth sizes (sizes.length - 1 - j : Nat)
def digit (sizes : List Int) (n : Int) (v : Nat) : Int := quoTo sizes n (sizes.length - 1 - v) % nth sizes v
def unrank (sizes : List Int) (n : Int) : List Int := (List.range sizes.length).map fun (v : Nat) => digit sizes n v
/-- The digits, but for the first few. -/
def unrTo (sizes : List Int) (n : Int) (j : Nat) : List Int := (List.range sizes.length).map fun (v : Nat) => if sizes.length - j ≤ v then digit sizes n v else 0
theorem unrTo_len {sizes : List Int} {n : Int} {j : Nat} : (unrTo sizes n j).length = sizes.length := by simp [unrTo]
theorem unrTo_0 {sizes : List Int} {n : Int} : unrTo sizes n 0 = List.replicate sizes.length 0 := by
  apply List.ext_getElem (by simp [unrTo])
  intro i h1 h2
  simp [unrTo] at h1 ⊢
  intro h; omega
theorem unrTo_end {sizes : List Int} {n : Int} : unrTo sizes n sizes.length = unrank sizes n := by simp [unrTo, unrank]
theorem unrTo_s {sizes : List Int} {n : Int} {j : Nat} (hj : j < sizes.length) : setI (unrTo sizes n j) (sizes.length - 1 - j : Nat) (quoTo sizes n j % nth sizes (sizes.length - 1 - j : Nat)) = unrTo sizes n (j + 1) := by
  apply List.ext_getElem (by simp [unrTo, setI])
  intro i h1 h2
  simp only [setI, unrTo, Int.toNat_natCast, List.getElem_set, List.getElem_map, List.getElem_range]
  simp [unrTo, setI] at h1
  by_cases h : sizes.length - 1 - j = i
  · rw [if_pos h, if_pos (by omega)]
    unfold digit
    rw [← h, show sizes.length - 1 - (sizes.length - 1 - j) = j by omega]
  · rw [if_neg h]
    by_cases h' : sizes.length - j ≤ i
    · rw [if_pos h', if_pos (by omega)]
    · rw [if_neg h', if_neg (by omega)]
theorem quoTo_nn {sizes : List Int} (h : SizesP sizes) {n : Int} (hn : 0 ≤ n) : ∀ {j : Nat}, j ≤ sizes.length → 0 ≤ quoTo sizes n j ∧ quoTo sizes n j ≤ n
  | 0, _ => ⟨hn, Int.le_refl _⟩
  | j + 1, hj => by
    have ih := quoTo_nn h hn (j := j) (by omega)
    have hs := h (sizes.length - 1 - j) (by omega)
    simp only [quoTo]
    exact ⟨Int.ediv_nonneg ih.1 (by omega), Int.le_trans (Int.ediv_le_self _ ih.1) ih.2⟩
theorem unrank_state {sizes : List Int} (h : SizesP sizes) {n : Int} : StateP sizes (unrank sizes n) := by
  refine ⟨by simp [unrank], fun v hv => ?_⟩
  have hv' : v < sizes.length := by simpa [unrank] using hv
  have hs := h v hv'
  rw [nth_eq hv]
  simp only [unrank, List.getElem_map, List.getElem_range, digit]
  exact ⟨Int.emod_nonneg _ (by omega), Int.emod_lt_of_pos _ (by omega)⟩
def rankTo (sizes s : List Int) : Nat → Int
  | 0 => 0
  | k + 1 => rankTo sizes s k * nth sizes k + nth s k
def rank (sizes s : List Int) : Int := rankTo sizes s s.length
theorem rankTo_in {sizes s : List Int} (h : SizesP sizes) (hs : StateP sizes s) : ∀ {k : Nat}, k ≤ s.length → 0 ≤ rankTo sizes s k ∧ rankTo sizes s k < ranksTo sizes k
  | 0, _ => by simp [rankTo, ranksTo]
  | k + 1, hk => by
    have ih := rankTo_in h hs (k := k) (by omega)
    have hz := h k (by have := hs.1; omega)
    have hx := hs.2 k (by omega)
    simp only [rankTo, ranksTo]
    constructor
    · have := Int.mul_nonneg ih.1 (show 0 ≤ nth sizes k by omega); omega
    · have h1 := Int.mul_le_mul_of_nonneg_right (show rankTo sizes s k + 1 ≤ ranksTo sizes k by omega) (show 0 ≤ nth sizes k by omega)
      rw [Int.add_mul, Int.one_mul] at h1
      omega
theorem rank_in {sizes s : List Int} (h : SizesP sizes) (hs : StateP sizes s) : 0 ≤ rank sizes s ∧ rank sizes s < ranks sizes := by
  have := rankTo_in h hs (Nat.le_refl _)
  unfold rank ranks
  rw [← hs.1]
  exact this
theorem quoTo_rank {sizes s : List Int} (h : SizesP sizes) (hs : StateP sizes s) : ∀ {j : Nat}, j ≤ sizes.length → quoTo sizes (rank sizes s) j = rankTo sizes s (sizes.length - j)
  | 0, _ => by simp only [quoTo, rank]; rw [hs.1]; rfl
  | j + 1, hj => by
    have ih := quoTo_rank h hs (j := j) (by omega)
    have hz := h (sizes.length - 1 - j) (by omega)
    have hx := hs.2 (sizes.length - 1 - j) (by have := hs.1; omega)
    simp only [quoTo]
    rw [ih, show sizes.length - j = (sizes.length - 1 - j) + 1 by omega]
    simp only [rankTo]
    rw [show sizes.length - (j + 1) = sizes.length - 1 - j by omega]
    rw [Int.add_comm, Int.add_mul_ediv_right _ _ (by omega), Int.ediv_eq_zero_of_lt hx.1 hx.2]
    omega
theorem unrank_rank {sizes s : List Int} (h : SizesP sizes) (hs : StateP sizes s) : unrank sizes (rank sizes s) = s := by
  have hu := unrank_state (n := rank sizes s) h
  apply ext_nth (hu.1.trans hs.1.symm)
  intro v hv
  have hv' : v < sizes.length := by rw [← hu.1]; exact hv
  have hx := hs.2 v (by have := hs.1; omega)
  rw [nth_eq hv]
  simp only [unrank, List.getElem_map, List.getElem_range, digit]
  rw [quoTo_rank h hs (by omega), show sizes.length - (sizes.length - 1 - v) = v + 1 by omega]
  simp only [rankTo]
  rw [Int.add_comm, Int.add_mul_emod_self_right, Int.emod_eq_of_lt hx.1 hx.2]

/-! ### Over all states -/
def leastTo (p : List Int → Bool) (f : List Int → Int) (sizes : List Int) : Nat → Int
  | 0 => 1000000000
  | n + 1 => if p (unrank sizes n) = true then min (leastTo p f sizes n) (f (unrank sizes n)) else leastTo p f sizes n
def greatTo (p : List Int → Bool) (f : List Int → Int) (sizes : List Int) : Nat → Int
  | 0 => -1000000000
  | n + 1 => if p (unrank sizes n) = true then max (greatTo p f sizes n) (f (unrank sizes n)) else greatTo p f sizes n
section
variable {p : List Int → Bool} {f : List Int → Int} {sizes : List Int}
theorem leastTo_t {n : Nat} (h : p (unrank sizes n) = true) : min (leastTo p f sizes n) (f (unrank sizes n)) = leastTo p f sizes (n + 1) := by simp only [leastTo]; rw [if_pos h]
theorem leastTo_f {n : Nat} (h : p (unrank sizes n) = false) : leastTo p f sizes n = leastTo p f sizes (n + 1) := by simp only [leastTo]; rw [if_neg (by simp [h])]
theorem greatTo_t {n : Nat} (h : p (unrank sizes n) = true) : max (greatTo p f sizes n) (f (unrank sizes n)) = greatTo p f sizes (n + 1) := by simp only [greatTo]; rw [if_pos h]
theorem greatTo_f {n : Nat} (h : p (unrank sizes n) = false) : greatTo p f sizes n = greatTo p f sizes (n + 1) := by simp only [greatTo]; rw [if_neg (by simp [h])]
theorem leastTo_ge {c : Int} (hc : c ≤ 1000000000) (h : ∀ n : Nat, p (unrank sizes n) = true → c ≤ f (unrank sizes n)) : ∀ n : Nat, c ≤ leastTo p f sizes n
  | 0 => hc
  | n + 1 => by
    have ih := leastTo_ge hc h n
    simp only [leastTo]
    split
    · rename_i hp; have := h n hp; omega
    · exact ih
theorem leastTo_le {k : Nat} (hp : p (unrank sizes k) = true) : ∀ {n : Nat}, k < n → leastTo p f sizes n ≤ f (unrank sizes k)
  | 0, h => absurd h (Nat.not_lt_zero _)
  | n + 1, h => by
    simp only [leastTo]
    rcases Nat.lt_or_ge k n with hk | hk
    · have := leastTo_le hp hk
      split <;> omega
    · have : k = n := by omega
      subst this
      rw [if_pos hp]; omega
theorem greatTo_le {c : Int} (hc : -1000000000 ≤ c) (h : ∀ n : Nat, p (unrank sizes n) = true → f (unrank sizes n) ≤ c) : ∀ n : Nat, greatTo p f sizes n ≤ c
  | 0 => hc
  | n + 1 => by
    have ih := greatTo_le hc h n
    simp only [greatTo]
    split
    · rename_i hp; have := h n hp; omega
    · exact ih
theorem greatTo_ge {k : Nat} (hp : p (unrank sizes k) = true) : ∀ {n : Nat}, k < n → f (unrank sizes k) ≤ greatTo p f sizes n
  | 0, h => absurd h (Nat.not_lt_zero _)
  | n + 1, h => by
    simp only [greatTo]
    rcases Nat.lt_or_ge k n with hk | hk
    · have := greatTo_ge hp hk
      split <;> omega
    · have : k = n := by omega
      subst this
      rw [if_pos hp]; omega
end
theorem lmaxTo_ex {l : List Int} : ∀ k : Nat, ∃ i : Nat, i ≤ k ∧ lmaxTo l k = nth l i
  | 0 => ⟨0, by omega, rfl⟩
  | k + 1 => by
    obtain ⟨i, hi, he⟩ := lmaxTo_ex (l := l) k
    simp only [lmaxTo]
    rcases Int.le_total (lmaxTo l k) (nth l ((k + 1 : Nat) : Int)) with h | h
    · exact ⟨k + 1, by omega, by omega⟩
    · exact ⟨i, by omega, by omega⟩
theorem choose_nth {q : Nat → Int → Prop} : ∀ (n : Nat), (∀ i, i < n → ∃ b, q i b) → ∃ l : List Int, l.length = n ∧ ∀ i : Nat, i < n → q i (nth l i)
  | 0, _ => ⟨[], rfl, fun i h => absurd h (Nat.not_lt_zero _)⟩
  | n + 1, h => by
    obtain ⟨l, h1, h2⟩ := choose_nth n fun i hi => h i (by omega)
    obtain ⟨b, hb⟩ := h n (by omega)
    refine ⟨l ++ [b], by simp [h1], fun i hi => ?_⟩
    rw [nth_eq (by simp; omega)]
    by_cases h' : i < n
    · rw [List.getElem_append_left (by omega)]
      have := h2 i h'
      rwa [nth_eq (by omega)] at this
    · have : i = n := by omega
      subst this
      rw [List.getElem_append_right (by omega)]
      simpa [h1] using hb
/-- A state at which every variable has the greatest weight that some assignments leave it. -/
theorem best_state {sizes : List Int} {w : List (List Int)} {l : List Asg} (hw : WOk sizes w) (hs : SizesP sizes) (hl : AsgsP sizes l) :
    ∃ s, StateP sizes s ∧ holds s l = true ∧ ∀ v : Int, 0 ≤ v → v < sizes.length → nth (nth w v) (nth s v) = greatest w v l := by
  obtain ⟨s, h1, h2⟩ := choose_nth (q := fun v x => 0 ≤ x ∧ x < nth sizes v ∧ nth (nth w v) x = greatest w v l ∧ ∀ j : Nat, j < l.length → (nth l j).1 = v → (nth l j).2 = x) sizes.length (fun v hv => by
    unfold greatest
    split
    · rename_i i hi
      have hp := List.find?_some hi
      have hm := List.mem_of_find?_eq_some hi
      have hlt : i < l.length := by simpa using hm
      have he : (nth l i).1 = v := by simpa using hp
      have ha := hl i hlt
      refine ⟨(nth l i).2, ha.2.2.1, by rw [← he]; exact ha.2.2.2.1, rfl, fun j hj hje => ?_⟩
      have : j = i := by
        rcases Nat.lt_or_ge j i with h | h
        · have := asgs_mono hl h hlt; omega
        · rcases Nat.lt_or_ge i j with h' | h'
          · have := asgs_mono hl h' hj; omega
          · omega
      rw [this]
    · rename_i hi
      have hn : ∀ j : Nat, j < l.length → (nth l j).1 ≠ v := fun j hj => by
        unfold firstBad at hi
        rw [List.find?_eq_none] at hi
        have := hi j (List.mem_range.2 hj)
        simpa using this
      have he := hw.lens v (by have := hw.len; omega)
      have hz := hs v hv
      obtain ⟨i, hi', hx⟩ := lmaxTo_ex (l := nth w v) ((nth w v).length - 1)
      exact ⟨i, by omega, by omega, by unfold lmax; exact hx.symm, fun j hj hje => absurd hje (hn j hj)⟩)
  have hst : StateP sizes s := ⟨h1, fun v hv => ⟨(h2 v (by omega)).1, (h2 v (by omega)).2.1⟩⟩
  refine ⟨s, hst, holds_iff.2 fun k hk => ?_, fun v h0 hv => ?_⟩
  · have ha := hl k hk
    have := (h2 (nth l k).1.toNat (by omega)).2.2.2 k hk (by omega)
    rw [Int.toNat_of_nonneg ha.1] at this
    exact this.symm
  · have := (h2 v.toNat (by omega)).2.2.1
    rwa [Int.toNat_of_nonneg h0] at this
theorem gain_best {sizes : List Int} {w : List (List Int)} {s : List Int} {o : MOp} (hl : AsgsP sizes o.post) (hb : ∀ v : Int, 0 ≤ v → v < sizes.length → nth (nth w v) (nth s v) = greatest w v o.pre) : ∀ {k : Nat}, k ≤ o.post.length → gain w s o.post k = o.cost - slackTo w o k
  | 0, _ => by simp [gain, slackTo]
  | k + 1, hk => by
    have ih := gain_best hl hb (k := k) (by omega)
    have ha := hl k (by omega)
    simp only [gain, slackTo]
    rw [ih, hb _ ha.1 ha.2.1]
    omega
def slackAt (w : List (List Int)) (o : MOp) (s : List Int) : Int := o.cost - val w s + val w (nextS s o.post)
def leastSlack (m : Multi) (w : List (List Int)) (o : MOp) (n : Nat) : Int := leastTo (fun s => holds s o.pre) (slackAt w o) m.sizes n
def greatGoal (m : Multi) (w : List (List Int)) (n : Nat) : Int := greatTo (fun s => holds s m.goal) (val w) m.sizes n
theorem unrank_toNat {sizes s : List Int} (h : SizesP sizes) (hs : StateP sizes s) : unrank sizes ((rank sizes s).toNat : Int) = s ∧ (rank sizes s).toNat < (ranks sizes).toNat := by
  have hr := rank_in h hs
  rw [Int.toNat_of_nonneg hr.1]
  exact ⟨unrank_rank h hs, by omega⟩
theorem leastSlack_eq {m : Multi} {w : List (List Int)} {op : Int} (hv : Valid m) (hw : WOk m.sizes w) (h0 : 0 ≤ op) (h1 : op < m.ops.length) : leastSlack m w (nth m.ops op) (ranks m.sizes).toNat = slack w (nth m.ops op) := by
  have ho := nth_op hv h0 h1
  have hb := slack_in hv hw h0 h1
  unfold leastSlack
  apply Int.le_antisymm
  · obtain ⟨s, hs, hh, hg⟩ := best_state hw hv.sizes ho.1
    obtain ⟨e1, e2⟩ := unrank_toNat hv.sizes hs
    have := leastTo_le (p := fun s => holds s (nth m.ops op).pre) (f := slackAt w (nth m.ops op)) (sizes := m.sizes) (by rw [e1]; exact hh) e2
    rw [e1] at this
    refine Int.le_trans this ?_
    have h3 := gain_best (w := w) (s := s) ho.2.1 hg (Nat.le_refl _)
    have h4 := val_next (w := w) hs ho.2.1 (Nat.le_refl _)
    unfold slackAt nextS slack
    omega
  · refine leastTo_ge (by omega) (fun n hp => ?_) _
    have hs := unrank_state (n := n) hv.sizes
    have := val_drop hw hs hp ho.2.1
    unfold slackAt
    omega
theorem valTo_goal {sizes : List Int} {w : List (List Int)} {s : List Int} {l : List Asg} (hw : WOk sizes w) (hs : StateP sizes s) (hh : holds s l = true) : ∀ {k : Nat}, k ≤ s.length → valTo w s k ≤ goalTo w l k
  | 0, _ => Int.le_refl _
  | k + 1, hk => by
    have ih := valTo_goal hw hs hh (k := k) (by omega)
    have := greatest_ge hw hs hh (v := k) (by omega) (by have := hs.1; omega)
    simp only [valTo, goalTo]
    omega
theorem valTo_best {sizes : List Int} {w : List (List Int)} {s : List Int} {l : List Asg} (hs : StateP sizes s) (hb : ∀ v : Int, 0 ≤ v → v < sizes.length → nth (nth w v) (nth s v) = greatest w v l) : ∀ {k : Nat}, k ≤ s.length → valTo w s k = goalTo w l k
  | 0, _ => rfl
  | k + 1, hk => by
    have ih := valTo_best hs hb (k := k) (by omega)
    simp only [valTo, goalTo]
    rw [ih, hb k (by omega) (by have := hs.1; omega)]
theorem goalMax_in {m : Multi} {w : List (List Int)} (hv : Valid m) (hw : WOk m.sizes w) : -8000000 ≤ goalMax w m.goal ∧ goalMax w m.goal ≤ 8000000 := by
  have := goalTo_in hw hv.sizes hv.goal w.length (by rw [hw.len]; exact Nat.le_refl _)
  have h1 := hv.len
  have h2 := hw.len
  unfold goalMax
  omega
theorem greatGoal_eq {m : Multi} {w : List (List Int)} (hv : Valid m) (hw : WOk m.sizes w) : greatGoal m w (ranks m.sizes).toNat = goalMax w m.goal := by
  have hb := goalMax_in hv hw
  unfold greatGoal
  apply Int.le_antisymm
  · refine greatTo_le (by omega) (fun n hp => ?_) _
    have hs := unrank_state (n := n) hv.sizes
    have := valTo_goal hw hs hp (Nat.le_refl _)
    unfold val goalMax
    rwa [show w.length = (unrank m.sizes n).length by rw [hs.1, hw.len]]
  · obtain ⟨s, hs, hh, hg⟩ := best_state hw hv.sizes hv.goal
    obtain ⟨e1, e2⟩ := unrank_toNat hv.sizes hs
    have := greatTo_ge (p := fun s => holds s m.goal) (f := val w) (sizes := m.sizes) (by rw [e1]; exact hh) e2
    rw [e1] at this
    refine Int.le_trans (Int.le_of_eq ?_) this
    have h3 := valTo_best hs hg (Nat.le_refl _)
    unfold goalMax val
    rw [h3, hs.1, hw.len]
end Go.Eng
