/- Part 3. -/
import Derived.Test.YtgophedpkiidkaaGreatE2
set_option linter.unusedSimpArgs false
set_option linter.unnecessarySimpa false
set_option linter.unusedVariables false
set_option linter.unusedSectionVars false
section
namespace Go.Eng
abbrev RowOk (r : List Int) : Prop := ∀ x : Nat, x < r.length → -1000000 ≤ nth r x ∧ nth r x ≤ 1000000
abbrev LensP (sizes : List Int) (w : List (List Int)) : Prop := ∀ v : Nat, v < w.length → ((nth w v).length : Int) = nth sizes v
abbrev RowsP (w : List (List Int)) : Prop := ∀ v : Nat, v < w.length → RowOk (nth w v)
def wcode (sizes : List Int) (w : List (List Int)) : Int :=
  if w.length ≠ sizes.length then 9 else if ¬ LensP sizes w then 9 else if ¬ RowsP w then 3 else 0
theorem wcode_1 {sizes : List Int} {w : List (List Int)} (h : w.length ≠ sizes.length) : 9 = wcode sizes w := by unfold wcode; rw [if_pos h]
theorem wcode_2 {sizes : List Int} {w : List (List Int)} (h : ¬ LensP sizes w) : 9 = wcode sizes w := by unfold wcode; rw [if_pos h]; simp
theorem wcode_3 {sizes : List Int} {w : List (List Int)} (h : w.length = sizes.length) (h' : LensP sizes w) (hr : ¬ RowsP w) : 3 = wcode sizes w := by
  unfold wcode; rw [if_neg (by simp [h]), if_neg (by simpa using h'), if_pos hr]
theorem wcode_0 {sizes : List Int} {w : List (List Int)} (h : w.length = sizes.length) (h' : LensP sizes w) (hr : RowsP w) : 0 = wcode sizes w := by
  unfold wcode; rw [if_neg (by simp [h]), if_neg (by simpa using h'), if_neg (by simpa using hr)]
theorem wcode_ok {sizes : List Int} {w : List (List Int)} (h : wcode sizes w = 0) : w.length = sizes.length ∧ LensP sizes w ∧ RowsP w := by
  unfold wcode at h
  by_cases h1 : w.length = sizes.length
  · by_cases h2 : LensP sizes w
    · by_cases h3 : RowsP w
      · exact ⟨h1, h2, h3⟩
      · rw [if_neg (by simp [h1]), if_neg (by simpa using h2), if_pos h3] at h; cases h
    · rw [if_neg (by simp [h1]), if_pos h2] at h; cases h
  · rw [if_pos h1] at h; cases h
def wfault (sizes : List Int) (w : List (List Int)) (i : Int) : Int × Int := if wcode sizes w = 0 then (0, 0) else (wcode sizes w, i)
theorem wfault_bad {sizes : List Int} {w : List (List Int)} {c i : Int} (h : c = wcode sizes w) (hc : c ≠ 0) : (c, i) = wfault sizes w i := by unfold wfault; rw [if_neg (by rw [← h]; exact hc), ← h]
theorem wfault_ok {sizes : List Int} {w : List (List Int)} {i : Int} (h : 0 = wcode sizes w) : (0, 0) = wfault sizes w i := by unfold wfault; rw [if_pos h.symm]
theorem rows_any {r : List Int} (h : r.any (fun x => decide (x < -1000000 ∨ 1000000 < x)) = false) : RowOk r := by
  intro v hv
  have : ¬ ∃ k : Nat, k < r.length ∧ decide (nth r k < -1000000 ∨ 1000000 < nth r k) = true := fun hh => by have := (any_iff (l := r) (p := fun x => decide (x < -1000000 ∨ 1000000 < x))).2 hh; rw [h] at this; cases this
  have := fun hh => this ⟨v, hv, hh⟩
  simp at this
  omega
theorem rows_any' {r : List Int} (h : r.any (fun x => decide (x < -1000000 ∨ 1000000 < x)) = true) : ¬ RowOk r := by
  intro hs
  obtain ⟨k, hk, hp⟩ := any_iff.1 h
  have := hs k hk
  simp at hp
  omega
def lmaxTo (l : List Int) : Nat → Int
  | 0 => nth l 0
  | k + 1 => max (lmaxTo l k) (nth l (k + 1 : Nat))
def lmax (l : List Int) : Int := lmaxTo l (l.length - 1)
def greatest (w : List (List Int)) (v : Int) (l : List Asg) : Int :=
  match firstBad l.length (fun i => decide ((nth l i).1 ≠ v)) with
  | some i => nth (nth w v) (nth l i).2
  | none => lmax (nth w v)
theorem greatest_some {w : List (List Int)} {v : Int} {l : List Asg} {k : Nat} (hk : k < l.length) (h : ∀ j : Nat, j < k → (nth l j).1 ≠ v) (hv : (nth l k).1 = v) : nth (nth w v) (nth l k).2 = greatest w v l := by
  unfold greatest
  rw [firstBad_some hk (fun j hj => by simpa using h j hj) (by simpa using hv)]
theorem greatest_none {w : List (List Int)} {v : Int} {l : List Asg} (h : ∀ j : Nat, j < l.length → (nth l j).1 ≠ v) : lmax (nth w v) = greatest w v l := by
  unfold greatest
  rw [firstBad_none (fun j hj => by simpa using h j hj)]
theorem lmaxTo_in {l : List Int} {a b : Int} : ∀ {k : Nat}, (∀ i : Nat, i ≤ k → a ≤ nth l i ∧ nth l i ≤ b) → a ≤ lmaxTo l k ∧ lmaxTo l k ≤ b
  | 0, h => h 0 (by omega)
  | k + 1, h => by
    have i1 := lmaxTo_in (k := k) (fun i hi => h i (by omega))
    have i2 := h (k + 1) (by omega)
    simp only [lmaxTo]
    omega
theorem lmaxTo_ge {l : List Int} : ∀ {k i : Nat}, i ≤ k → nth l i ≤ lmaxTo l k
  | 0, i, h => by have : i = 0 := by omega
                  subst this; exact Int.le_refl _
  | k + 1, i, h => by
    rcases Nat.lt_or_ge i (k + 1) with hi | hi
    · have := lmaxTo_ge (l := l) (k := k) (i := i) (by omega)
      simp only [lmaxTo]; omega
    · have : i = k + 1 := by omega
      subst this
      simp only [lmaxTo]; omega
theorem lmax_ge {l : List Int} {x : Int} (h0 : 0 ≤ x) (h1 : x < l.length) : nth l x ≤ lmax l := by
  have := lmaxTo_ge (l := l) (k := l.length - 1) (i := x.toNat) (by omega)
  rwa [Int.toNat_of_nonneg h0] at this
theorem lmax_in {r : List Int} (h : RowOk r) (hl : 0 < r.length) : -1000000 ≤ lmax r ∧ lmax r ≤ 1000000 := lmaxTo_in fun i hi => h i (by omega)
structure Valid (m : Multi) : Prop where
  len : 1 ≤ m.sizes.length ∧ m.sizes.length ≤ 8
  sizes : SizesP m.sizes
  init : StateP m.sizes m.init
  goal : AsgsP m.sizes m.goal
  opsLen : m.ops.length ≤ 40
  op : ∀ i : Nat, i < m.ops.length → AsgsP m.sizes (nth m.ops i).pre ∧ AsgsP m.sizes (nth m.ops i).post ∧ 0 ≤ (nth m.ops i).cost ∧ (nth m.ops i).cost ≤ 100
theorem assigns_iff {sizes : List Int} {l : List Asg} : assigns sizes l = true ↔ AsgsP sizes l := by simp only [assigns, decide_eq_true_eq]
theorem isState_iff {sizes s : List Int} : isState sizes s = true ↔ StateP sizes s := by simp only [isState, decide_eq_true_eq]
theorem valid_of {m : Multi} (h : validate m = (0, 0)) : Valid m := by
  by_cases h1 : m.sizes.length = 0 ∨ 8 < m.sizes.length
  · rw [← validate_1 h1] at h; cases h
  by_cases h2 : SizesP m.sizes
  · cases h3 : isState m.sizes m.init with
    | false => rw [← validate_3 h1 h2 h3] at h; cases h
    | true =>
      cases h4 : assigns m.sizes m.goal with
      | false => rw [← validate_4 h1 h2 h3 h4] at h; cases h
      | true =>
        by_cases h5 : 40 < m.ops.length
        · rw [← validate_5 h1 h2 h3 h4 h5] at h; cases h
        · rw [validate_6 h1 h2 h3 h4 h5] at h
          have hall : ∀ i, i < m.ops.length → opFault m i = (0, 0) := by
            intro i hi
            unfold opsFault at h
            cases hf : firstBad m.ops.length (fun i => decide (opFault m i = (0, 0))) with
            | some j =>
              rw [hf] at h
              unfold firstBad at hf
              have := List.find?_some hf
              simp [h] at this
            | none =>
              unfold firstBad at hf
              rw [List.find?_eq_none] at hf
              have := hf i (List.mem_range.2 hi)
              simpa using this
          refine ⟨by omega, h2, isState_iff.1 h3, assigns_iff.1 h4, by omega, fun i hi => ?_⟩
          have := hall i hi
          unfold opFault at this
          split at this
          · cases this
          · rename_i ha
            split at this
            · cases this
            · rename_i hc
              simp only [Decidable.not_not] at ha hc
              exact ⟨assigns_iff.1 ha.1, assigns_iff.1 ha.2, hc⟩
  · rw [← validate_2 h1 h2] at h; cases h
theorem asgs_ge {sizes : List Int} {l : List Asg} (h : AsgsP sizes l) : ∀ i : Nat, i < l.length → (i : Int) ≤ (nth l i).1
  | 0, hi => by simpa using (h 0 hi).1
  | i + 1, hi => by
    have ih := asgs_ge h i (by omega)
    have := (h (i + 1) hi).2.2.2.2 (by omega)
    have e : ((i + 1 : Nat) : Int) - 1 = (i : Int) := by omega
    rw [e] at this
    omega
theorem asgs_len {sizes : List Int} {l : List Asg} (h : AsgsP sizes l) : l.length ≤ sizes.length := by
  by_cases hl : l.length = 0
  · omega
  · have := asgs_ge h (l.length - 1) (by omega)
    have := (h (l.length - 1) (by omega)).2.1
    omega
structure WOk (sizes : List Int) (w : List (List Int)) : Prop where
  len : w.length = sizes.length
  lens : LensP sizes w
  rows : RowsP w
theorem WOk.row {sizes : List Int} {w : List (List Int)} (h : WOk sizes w) {v x : Int} (h0 : 0 ≤ v) (h1 : v < sizes.length) (h2 : 0 ≤ x) (h3 : x < nth sizes v) : x < (nth w v).length ∧ -1000000 ≤ nth (nth w v) x ∧ nth (nth w v) x ≤ 1000000 := by
  have e := h.lens v.toNat (by have := h.len; omega)
  have r := h.rows v.toNat (by have := h.len; omega) x.toNat
  rw [Int.toNat_of_nonneg h0] at e r
  rw [Int.toNat_of_nonneg h2] at r
  exact ⟨by omega, r (by omega)⟩
theorem greatest_in {sizes : List Int} {w : List (List Int)} (hw : WOk sizes w) (hs : SizesP sizes) {v : Int} (h0 : 0 ≤ v) (h1 : v < sizes.length) {l : List Asg} (hl : AsgsP sizes l) : -1000000 ≤ greatest w v l ∧ greatest w v l ≤ 1000000 := by
  unfold greatest
  cases hf : firstBad l.length (fun i => decide ((nth l i).1 ≠ v)) with
  | some i =>
    unfold firstBad at hf
    have hp := List.find?_some hf
    have hi := List.mem_of_find?_eq_some hf
    rw [List.mem_range] at hi
    simp at hp
    have := hl i hi
    subst hp
    exact (hw.row h0 h1 this.2.2.1 this.2.2.2.1).2
  | none =>
    have hn := nth_size hs h0 h1
    have e := hw.lens v.toNat (by have := hw.len; omega)
    have r := hw.rows v.toNat (by have := hw.len; omega)
    rw [Int.toNat_of_nonneg h0] at e r
    exact lmax_in r (by omega)
def slackTo (w : List (List Int)) (o : MOp) : Nat → Int
  | 0 => o.cost
  | k + 1 => slackTo w o k - (greatest w (nth o.post k).1 o.pre - nth (nth w (nth o.post k).1) (nth o.post k).2)
def slack (w : List (List Int)) (o : MOp) : Int := slackTo w o o.post.length
def goalTo (w : List (List Int)) (l : List Asg) : Nat → Int
  | 0 => 0
  | k + 1 => goalTo w l k + greatest w k l
def goalMax (w : List (List Int)) (l : List Asg) : Int := goalTo w l w.length
theorem slackTo_in {sizes : List Int} {w : List (List Int)} (hw : WOk sizes w) (hs : SizesP sizes) {o : MOp} (hpre : AsgsP sizes o.pre) (hpost : AsgsP sizes o.post) (hc : 0 ≤ o.cost ∧ o.cost ≤ 100) : ∀ k : Nat, k ≤ o.post.length → -2000000 * k ≤ slackTo w o k ∧ slackTo w o k ≤ 100 + 2000000 * k
  | 0, _ => by simp [slackTo]; omega
  | k + 1, hk => by
    have ih := slackTo_in hw hs hpre hpost hc k (by omega)
    have h := hpost k (by omega)
    have g := greatest_in hw hs h.1 h.2.1 hpre
    have r := hw.row h.1 h.2.1 h.2.2.1 h.2.2.2.1
    simp only [slackTo]
    omega
theorem goalTo_in {sizes : List Int} {w : List (List Int)} (hw : WOk sizes w) (hs : SizesP sizes) {l : List Asg} (hl : AsgsP sizes l) : ∀ k : Nat, k ≤ sizes.length → -1000000 * k ≤ goalTo w l k ∧ goalTo w l k ≤ 1000000 * k
  | 0, _ => by simp [goalTo]
  | k + 1, hk => by
    have ih := goalTo_in hw hs hl k (by omega)
    have g := greatest_in hw hs (v := k) (by omega) (by omega) hl
    simp only [goalTo]
    omega
def valTo (w : List (List Int)) (s : List Int) : Nat → Int
  | 0 => 0
  | k + 1 => valTo w s k + nth (nth w k) (nth s k)
def val (w : List (List Int)) (s : List Int) : Int := valTo w s s.length
theorem valTo_in {sizes : List Int} {w : List (List Int)} (hw : WOk sizes w) {s : List Int} (hs : StateP sizes s) : ∀ k : Nat, k ≤ s.length → -1000000 * k ≤ valTo w s k ∧ valTo w s k ≤ 1000000 * k
  | 0, _ => by simp [valTo]
  | k + 1, hk => by
    have ih := valTo_in hw hs k (by omega)
    have h := hs.2 k (by omega)
    have r := hw.row (v := k) (x := nth s k) (by omega) (by have := hs.1; omega) h.1 h.2
    simp only [valTo]
    omega
theorem wfault_iff {sizes : List Int} {w : List (List Int)} {i : Int} (h : (wfault sizes w i).1 = 0) : WOk sizes w := by
  unfold wfault at h
  split at h
  · rename_i h0; obtain ⟨a, b, c⟩ := wcode_ok h0; exact ⟨a, b, c⟩
  · rename_i h0; exact absurd h h0
theorem stateFault_ok {m : Multi} {s : List Int} (h : stateFault m s = (0, 0)) : Valid m ∧ StateP m.sizes s := by
  unfold stateFault at h
  split at h
  · rename_i hv
    split at h
    · rename_i hs; exact ⟨valid_of hv, isState_iff.1 hs⟩
    · cases h
  · rename_i hv; exact absurd h hv
def addW (f : Int × Int) (sizes : List Int) (w : List (List Int)) (i : Int) : Int × Int := if f.1 = 0 ∧ wcode sizes w ≠ 0 then (wcode sizes w, i) else f
def potFault (m : Multi) (w : List (List Int)) (i : Int) : Int × Int := if validate m = (0, 0) then wfault m.sizes w i else validate m
theorem potFault_1 {m : Multi} {w : List (List Int)} {i : Int} (h : (validate m).1 = 0 ∧ (validate m).2 = 0) : wfault m.sizes w i = potFault m w i := by unfold potFault; rw [if_pos (pair0 h)]
theorem potFault_2 {m : Multi} {w : List (List Int)} {i : Int} (h : ¬ ((validate m).1 = 0 ∧ (validate m).2 = 0)) : validate m = potFault m w i := by
  unfold potFault; rw [if_neg (fun e => h (by rw [e]; exact ⟨rfl, rfl⟩))]
theorem potFault_ok {m : Multi} {w : List (List Int)} {i : Int} (h : (potFault m w i).1 = 0 ∧ (potFault m w i).2 = 0) : Valid m ∧ WOk m.sizes w := by
  unfold potFault at h
  split at h
  · rename_i hv; exact ⟨valid_of hv, wfault_iff h.1⟩
  · rename_i hv; exact absurd (pair0 h) hv
def slackRes (m : Multi) (w : List (List Int)) : List Int × Int × (Int × Int) :=
  if potFault m w (-8) = (0, 0) then (m.ops.map (slack w), goalMax w m.goal, (0, 0)) else ([], 0, potFault m w (-8))
theorem slackRes_1 {m : Multi} {w : List (List Int)} (h : ¬ ((potFault m w (-8)).1 = 0 ∧ (potFault m w (-8)).2 = 0)) : slackRes m w = ([], 0, potFault m w (-8)) := by
  unfold slackRes; rw [if_neg (fun e => h (by rw [e]; exact ⟨rfl, rfl⟩))]
theorem slackRes_2 {m : Multi} {w : List (List Int)} (h : (potFault m w (-8)).1 = 0 ∧ (potFault m w (-8)).2 = 0) : slackRes m w = (m.ops.map (slack w), goalMax w m.goal, (0, 0)) := by
  unfold slackRes; rw [if_pos (pair0 h)]
def adm (m : Multi) (w : List (List Int)) : Bool := decide ((slackRes m w).2.2 = (0, 0)) && (decide ((slackRes m w).2.1 ≤ 0) && !((slackRes m w).1.any fun n => decide (n < 0)))
theorem range_map {α β : Type} [Inhabited α] (f : α → β) (l : List α) : (List.range l.length).map (fun (i : Nat) => f (nth l i)) = l.map f := by
  apply List.ext_getElem?
  intro i
  by_cases h : i < l.length
  · simp [h, nth_eq h]
  · simp [h]
end Go.Eng
end

section
namespace Go.Proofs.YtgophedpkiidkaaGreat
open Go.Eng
set_option maxRecDepth 10000
set_option maxHeartbeats 1000000
theorem potential_check_1_does (x : Int) : Does Tryz.prog false 41 [I (x)] (Bo (decide (x < -1000000 ∨ 1000000 < x))) := by
 refine Does.of_body Tryz.func41 rfl rfl (by simp) Tryz.call41 (fun w0 O0 => ?_); refine .g <| .r <| .a ?_; refine .z <| .m ?_; refine .x (.b blss) ?_; refine .m ?_; refine .split (n := 5) rfl (fun c5 => ?_) (fun c5 => ?_)
 ·refine .hf c5 ?_; refine .hf c5 ?_; refine .x (OpSem.pickT rfl rfl c5 rfl) ?_; refine .a ?_; exact .sq <| .t <| .ret rfl (.tmp rfl <| .nil) rfl (Le.bo (by simp at *; omega))
 ·refine .ht c5 ?_; refine .m ?_; refine .ht c5 ?_; refine .x (.b bgtr) ?_; refine .x (OpSem.pickF rfl rfl c5 rfl) ?_; refine .a ?_; exact .sq <| .t <| .ret rfl (.tmp rfl <| .nil) rfl (Le.bo (by simp at *; omega))
theorem potential_Admissible_1_does (n : Int) : Does Tryz.prog false 22 [I (n)] (Bo (decide (n < 0))) := by
 refine Does.of_body Tryz.func22 rfl rfl (by simp) Tryz.call22 (fun w0 O0 => ?_); refine .g <| .r <| .a ?_; refine .z <| .m ?_; refine .x (.b blss) ?_; refine .a ?_; exact .sq <| .t <| .ret rfl (.tmp rfl <| .nil) rfl (.refl _)
theorem potential_check_does (m : Multi) (w : List (List Int)) : Does Tryz.prog false 18 [multi m, .d (rows w)] (flt (wfault m.sizes w (-8))) := by
 refine Does.of_body Tryz.func18 rfl rfl (by simp) Tryz.call18 (fun w0 O0 => ?_); refine .lg 0 0 fun len0_0 => ?_; refine .lg 0 1 fun len0_1 => ?_; refine .lg 0 2 fun len0_2 => ?_; refine .lg 0 3 fun len0_3 => ?_; refine .le 1 fun len1 => ?_; refine .g <| .r <| .bx 2 ?_; refine .al 4 zc32 ?_; refine .sq <| .g <| .g <| .r <| .m ?_; refine .x (.n es37) ?_; refine .x (.f fo26_0) ?_; refine .x (.l vs22) ?_; refine .x (.n es22) ?_; refine .x (.b bneq) ?_; refine .sq <| .cond rfl (fun c14 => ?_) (fun c14 => ?_)
 ·refine .g <| .r <| .x (.bd pl32 zc32) ?_; refine .sb vs32 ?_; exact .sq <| .t <| .t <| .ret rfl (.cellN rfl rfl vs32 <| .nil) rfl (Le.flt (wfault_bad (wcode_1 (by simp at c14; omega)) (by decide)))
 ·have hl : w.length = m.sizes.length := by simp at c14; omega
  refine .p <| .g <| .g <| .g <| .r <| .m ?_; refine .x (.n es37) ?_; refine .m ?_; refine .sq <| .k <| .loop (X := Nat) (fun k => k ≤ w.length ∧ ∀ v : Nat, v < k → ((nth w v).length : Int) = nth m.sizes v) (fun k => [(1, .d (rows w)), (2, .r 2 0), (4, .r 4 0), (16, .d (rows w)), (17, I (w.length)), (18, I (k))]) (fun k => [(2, .box [.d (ints m.sizes), .d (ints m.init), .d (asgs m.goal), .d (opsD m.ops)]), (4, .box [I (0), I (0)])]) (fun k => w.length - k) 0 ⟨by omega, by simp⟩ ?_ ?_
  ·exact .p5 <| .slot rfl (Le.of_eq (by simp)) <| .all
  ·rintro k ⟨hkl, hinv⟩
   refine .g <| .r <| .x (.b blss) ?_; refine .sq <| .g <| .cond rfl (fun c19 => ?_) (fun c19 => ?_)
   ·have hk : k < w.length := by simpa using c19
    refine .p <| .g <| .g <| .k <| .g <| .r <| .m ?_; refine .x (.i es37) ?_; refine .x (.l1 vs22) ?_; refine .a ?_; refine .a ?_; refine .z <| .m ?_; refine .x (.n es22) ?_; refine .x (.f fo26_0) ?_; refine .x (.l vs22) ?_; refine .m ?_; refine .x (.i es22) ?_; refine .x (.l1 vs3) ?_; refine .x (.b bneq) ?_; refine .sq <| .cond rfl (fun c30 => ?_) (fun c30 => ?_)
    ·refine .g <| .r <| .x (.bd pl32 zc32) ?_; refine .sb vs32 ?_; exact .sq <| .t <| .k <| .t <| .t <| .k <| .t <| .ret rfl (.cellN rfl rfl vs32 <| .nil) rfl (Le.flt (wfault_bad (wcode_2 (fun h => by have := h k hk; simp at c30; omega)) (by decide)))
    ·have hb : ((nth w k).length : Int) = nth m.sizes k := by simp at c30; omega
     refine .p <| .n <| .y <| .x .ad ?_; refine .m ?_; refine .n <| .again (k + 1) ⟨by omega, all_succ hinv hb⟩ ?_ (by omega); exact .p5 <| .slot rfl (Le.of_eq (by simp)) <| .all
   ·have hk : k = w.length := by simp at c19; omega
    have hlens : LensP m.sizes w := by subst hk; exact hinv
    refine .u <| .u <| .u <| .b <| .g <| .g <| .g <| .r <| .m ?_; refine .x (.n es37) ?_; refine .m ?_; refine .sq <| .k <| .loop (X := Nat) (fun k => k ≤ w.length ∧ ∀ v : Nat, v < k → RowOk (nth w v)) (fun k => [(4, .r 4 0), (33, .d (rows w)), (34, I (w.length)), (35, I (k))]) (fun k => [(4, .box [I (0), I (0)])]) (fun k => w.length - k) 0 ⟨by omega, by simp⟩ ?_ ?_
    ·exact .p3 <| .slot rfl (Le.of_eq (by simp)) <| .mem rfl <| .nil
    ·rintro k ⟨hkl, hinv⟩
     refine .g <| .r <| .x (.b blss) ?_; refine .sq <| .g <| .cond rfl (fun c36 => ?_) (fun c36 => ?_)
     ·have hk : k < w.length := by simpa using c36
      refine .p <| .g <| .g <| .k <| .g <| .r <| .x (.i es37) ?_; refine .x (.l1 vs22) ?_; refine .a ?_; refine .z <| .m ?_; refine .x (OpSem.call0 (slices_ContainsFunc_int_int_does (nth w k) 41 [] (fun x => decide (x < -1000000 ∨ 1000000 < x)) (fun n hn => rfl) (fun x _ => potential_check_1_does x)) rfl rfl rfl rfl (Les.refl _)) ?_; refine .sq <| .cond rfl (fun c40 => ?_) (fun c40 => ?_)
      ·refine .g <| .r <| .x (.bd pl32 zc32) ?_; refine .sb vs32 ?_; exact .sq <| .t <| .k <| .t <| .t <| .k <| .t <| .ret rfl (.cellN rfl rfl vs32 <| .nil) rfl (Le.flt (wfault_bad (wcode_3 hl hlens (fun h => rows_any' c40 (h k hk))) (by decide)))
      ·refine .p <| .n <| .y <| .x .ad ?_; refine .m ?_; refine .n <| .again (k + 1) ⟨by omega, all_succ hinv (rows_any c40)⟩ ?_ (by omega); exact .p3 <| .slot rfl (Le.of_eq (by simp)) <| .mem rfl <| .nil
     ·have hk : k = w.length := by simp at c36; omega
      refine .u <| .u <| .u <| .b <| .z <| .x (.bd pl32 zc32) ?_; refine .sb vs32 ?_; exact .sq <| .t <| .ret rfl (.cellN rfl rfl vs32 <| .nil) rfl (Le.flt (by subst hk; exact wfault_ok (wcode_0 hl hlens hinv)))
theorem potential_value_does (sizes : List Int) (w : List (List Int)) (s : List Int) (hw : WOk sizes w) (hs : StateP sizes s) (hz : sizes.length ≤ 8) : Does Tryz.prog false 19 [.d (rows w), .d (ints s)] (I (val w s)) := by
 have hl1 := hw.len
 have hl2 := hs.1
 refine Does.of_body Tryz.func19 rfl rfl (by simp) Tryz.call19 (fun w0 O0 => ?_); refine .le 0 fun len0 => ?_; refine .le 1 fun len1 => ?_; refine .g <| .r <| .a ?_; refine .z <| .a ?_; refine .sq <| .g <| .g <| .r <| .m ?_; refine .x (.n es22) ?_; refine .m ?_; refine .sq <| .k <| .loop (X := Nat) (fun k => k ≤ s.length) (fun k => [(0, .d (rows w)), (5, I (valTo w s k)), (8, .d (ints s)), (9, I (s.length)), (10, I (k))]) (fun k => []) (fun k => s.length - k) 0 (by omega) ?_ ?_
 ·exact .p3 <| .sl <| .slot rfl (Le.of_eq (by simp)) <| .nil
 ·rintro k hkl
  refine .g <| .r <| .x (.b blss) ?_; refine .sq <| .g <| .cond rfl (fun c11 => ?_) (fun c11 => ?_)
  ·have hk : k < s.length := by simpa using c11
   have hsk := hs.2 k hk
   have hr := hw.row (v := k) (x := nth s k) (by omega) (by omega) hsk.1 hsk.2
   have hv := valTo_in hw hs k (by omega)
   refine .p <| .g <| .g <| .k <| .g <| .r <| .m ?_; refine .x (.i es22) ?_; refine .x (.l1 vs3) ?_; refine .a ?_; refine .a ?_; refine .y <| .mm ?_; refine .m ?_; refine .x (.i es37) ?_; refine .x (.l1 vs22) ?_; refine .m ?_; refine .x (.i es22) ?_; refine .x (.l1 vs3) ?_; refine .x .ad ?_; refine .a ?_; refine .n <| .n <| .y <| .x .ad ?_; refine .m ?_; refine .n <| .again (k + 1) (by omega) ?_ (by omega); exact .p3 <| .sl <| .slot rfl (Le.of_eq (by simp)) <| .nil
  ·have hk : k = s.length := by simp at c11; omega
   refine .u <| .u <| .u <| .b <| .z <| .m ?_; refine .a ?_; exact .sq <| .t <| .ret rfl (.tmp rfl <| .nil) rfl (Le.i (by rw [hk]; rfl))
theorem slices_Max_int_int_does (l : List Int) (hl : 0 < l.length) : Does Tryz.prog false 72 [.d (ints l)] (I (lmax l)) := by
 refine Does.of_body Tryz.func72 rfl rfl (by simp) Tryz.call72 (fun w0 O0 => ?_); refine .le 0 fun len0 => ?_; refine .g <| .r <| .a ?_; refine .sq <| .g <| .g <| .r <| .m ?_; refine .x (.n es22) ?_; refine .x (.b blss) ?_; refine .sq <| .cond rfl (fun c7 => ?_) (fun c7 => ?_)
 ·exact absurd c7 (by simp; omega)
 ·refine .p <| .z <| .m ?_; refine .x (.i es22) ?_; refine .x (.l1 vs3) ?_; refine .a ?_; refine .sq <| .g <| .g <| .r <| .a ?_; refine .sq <| .k <| .loop (X := Nat) (fun k => k + 1 ≤ l.length) (fun k => [(0, .d (ints l)), (3, I (lmaxTo l k)), (4, I (((k + 1 : Nat) : Int)))]) (fun k => []) (fun k => l.length - k) 0 (by omega) ?_ ?_
  ·exact .sl <| .slot rfl (Le.of_eq (by simp [lmaxTo])) <| .slot rfl (Le.of_eq (by simp)) <| .nil
  ·rintro k hkl
   refine .g <| .g <| .r <| .mm ?_; refine .x (.n es22) ?_; refine .x (.b blss) ?_; refine .sq <| .cond rfl (fun c15 => ?_) (fun c15 => ?_)
   ·have hk : k + 1 < l.length := by simp at c15; omega
    refine .p <| .g <| .g <| .k <| .r <| .mm ?_; refine .m ?_; refine .x (.i es22) ?_; refine .x (.l1 vs3) ?_; refine .x (OpSem.max2 rfl rfl rfl) ?_; refine .a ?_; refine .n <| .n <| .y <| .m ?_; refine .x .ad ?_; refine .a ?_; refine .n <| .again (k + 1) (by omega) ?_ (by omega); exact .sl <| .slot rfl (Le.of_eq (by simp [lmaxTo])) <| .slot rfl (Le.of_eq (by simp)) <| .nil
   ·have hk : k = l.length - 1 := by simp at c15; omega
    refine .u <| .u <| .u <| .b <| .z <| .m ?_; refine .a ?_; exact .sq <| .t <| .ret rfl (.tmp rfl <| .nil) rfl (Le.i (by rw [hk]; rfl))
theorem potential_greatest_does (sizes : List Int) (w : List (List Int)) (v : Int) (l : List Asg) (hw : WOk sizes w) (hs : SizesP sizes) (h0 : 0 ≤ v) (h1 : v < sizes.length) (hl : AsgsP sizes l) : Does Tryz.prog false 42 [.d (rows w), I (v), .d (asgs l)] (I (greatest w v l)) := by
 have hn := nth_size hs h0 h1
 have he := hw.lens v.toNat (by have := hw.len; omega)
 rw [Int.toNat_of_nonneg h0] at he
 have hl1 := hw.len
 refine Does.of_body Tryz.func42 rfl rfl (by simp) Tryz.call42 (fun w0 O0 => ?_); refine .le 0 fun len0 => ?_; refine .le 2 fun len2 => ?_; refine .g <| .r <| .a ?_; refine .sq <| .g <| .g <| .r <| .m ?_; refine .x (.n es23) ?_; refine .m ?_; refine .sq <| .k <| .loop (X := Nat) (fun k => k ≤ l.length ∧ ∀ j : Nat, j < k → (nth l j).1 ≠ v) (fun k => [(0, .d (rows w)), (1, I (v)), (9, .d (asgs l)), (10, I (l.length)), (11, I (k))]) (fun k => []) (fun k => l.length - k) 0 ⟨by omega, by simp⟩ ?_ ?_
 ·exact .p3 <| .sl <| .slot rfl (Le.of_eq (by simp)) <| .nil
 ·rintro k ⟨hkl, hinv⟩
  refine .g <| .r <| .x (.b blss) ?_; refine .sq <| .g <| .cond rfl (fun c12 => ?_) (fun c12 => ?_)
  ·have hk : k < l.length := by simpa using c12
   refine .p <| .g <| .g <| .k <| .g <| .r <| .x (.i es23) ?_; refine .x (.lN vs87) ?_; refine .al 8 zc87 ?_; refine .sb vs87 ?_; refine .z <| .x (.f fo87_0) ?_; refine .x (.l vs3) ?_; refine .m ?_; refine .x (.b beql) ?_; refine .sq <| .cond rfl (fun c18 => ?_) (fun c18 => ?_)
   ·have hv : (nth l k).1 = v := by simpa using c18
    have ha := hl k hk
    have hr := hw.row h0 h1 (x := (nth l k).2) ha.2.2.1 (by have := ha.2.2.2.1; rw [hv] at this; exact this)
    refine .g <| PC.start [] ?_; refine .mm ?_; refine .x (.i es37) ?_; refine .x (.l1 vs22) ?_; refine .x (.f fo87_1) ?_; refine .x (.l vs3) ?_; refine .d0 mixed ?_; refine .x (.i es22) ?_; refine .x (.l1 vs3) ?_; refine .a ?_; exact .sq <| .t <| .k <| .t <| .t <| .k <| .t <| .ret rfl (.tmp rfl <| .nil) rfl (Le.i (greatest_some hk hinv hv))
   ·have hb : (nth l k).1 ≠ v := by simpa using c18
    refine .p <| .n <| .y <| .x .ad ?_; refine .m ?_; refine .n <| .again (k + 1) ⟨by omega, all_succ hinv hb⟩ ?_ (by omega); exact .p3 <| .sl <| .slot rfl (Le.of_eq (by simp)) <| .nil
  ·have hk : k = l.length := by simp at c12; omega
   refine .u <| .u <| .u <| .b <| .z <| .mm ?_; refine .x (.i es37) ?_; refine .x (.l1 vs22) ?_; refine .x (OpSem.call0 (slices_Max_int_int_does _ (by omega)) rfl rfl rfl rfl (Les.refl _)) ?_; refine .a ?_; exact .sq <| .t <| .ret rfl (.tmp rfl <| .nil) rfl (Le.i (by subst hk; exact greatest_none hinv))
theorem potential_Slack_does (m : Multi) (w : List (List Int)) : Does Tryz.prog false 20 [multi m, .d (rows w)] (.t [.d (ints (slackRes m w).1), I (slackRes m w).2.1, flt (slackRes m w).2.2]) := by
 refine Does.of_body Tryz.func20 rfl rfl (by simp) Tryz.call20 (fun w0 O0 => ?_); refine .lg 0 0 fun len0_0 => ?_; refine .lg 0 1 fun len0_1 => ?_; refine .lg 0 2 fun len0_2 => ?_; refine .lg 0 3 fun len0_3 => ?_; refine .le 1 fun len1 => ?_; refine .g <| .r <| .bx 2 ?_; refine .a ?_; refine .a ?_; refine .al 6 zc32 ?_; refine .z <| .x (.L vs26) ?_; refine .x (OpSem.call0 (multi_Validate_does ..) rfl rfl rfl rfl (Les.refl _)) ?_; refine .al 7 zc32 ?_; refine .sb vs32 ?_; refine .sq <| .cut [(1, .d (rows w)), (2, .r 2 0), (4, .d (.v (.slice none 0 0))), (5, I (0)), (6, .r 6 0), (7, .r 7 0)] [(2, .box [.d (ints m.sizes), .d (ints m.init), .d (asgs m.goal), .d (opsD m.ops)]), (6, .box [I (0), I (0)]), (7, .box [I ((potFault m w (-8)).1), I ((potFault m w (-8)).2)])] ?_ ?_
 ·refine .g <| .r <| .x (.L vs32) ?_; refine .x (.bd pl32 zc32) ?_; refine .x (OpSem.eqS2 rfl rfl rfl io32) ?_; refine .sq <| .cond rfl (fun c20 => ?_) (fun c20 => ?_)
  ·refine .r <| .x (.L vs26) ?_; refine .m ?_; refine .x (OpSem.call0 (potential_check_does ..) rfl rfl rfl rfl (Les.refl _)) ?_; refine .sb vs32 ?_; refine .n ?_
   have he := potFault_1 (w := w) (i := -8) (by simpa using c20)
   exact .meet <| .p5 <| .sl <| .mem rfl <| .mem rfl <| .boxLe rfl (.cons (Le.i (congrArg Prod.fst (he))) <| .cons (Le.i (congrArg Prod.snd (he))) <| .nil) <| .nil
  ·refine .p ?_
   have he := potFault_2 (m := m) (w := w) (i := -8) (fun h => by simp [h.1, h.2] at c20)
   exact .meet <| .p5 <| .sl <| .mem rfl <| .mem rfl <| .boxLe rfl (.cons (Le.i (congrArg Prod.fst (he))) <| .cons (Le.i (congrArg Prod.snd (he))) <| .nil) <| .nil
 ·refine .g <| .g <| .r <| .x (.L vs32) ?_; refine .x (.bd pl32 zc32) ?_; refine .x (OpSem.neS2 rfl rfl rfl io32) ?_; refine .sq <| .cond rfl (fun c26 => ?_) (fun c26 => ?_)
  ·have h1 : ¬ ((potFault m w (-8)).1 = 0 ∧ (potFault m w (-8)).2 = 0) := fun h => by simp [h.1, h.2] at c26
   refine .g <| PC.start [] ?_; refine .x (.L vs32) ?_; refine .x (OpSem.move (.inr rfl) rfl) ?_; refine .x (OpSem.move (.inr rfl) rfl) ?_; refine .d0 mixed ?_; refine .sb vs32 ?_; exact .sq <| .t <| .t <| .ret rfl (.tmp rfl <| .tmp rfl <| .cellN rfl rfl vs32 <| .nil) rfl (Le.t (.cons (by rw [slackRes_1 h1]; exact Le.nil 1) <| .cons (Le.i (by rw [slackRes_1 h1])) <| .cons (Le.flt (by rw [slackRes_1 h1])) <| .nil))
  ·have h0 : (potFault m w (-8)).1 = 0 ∧ (potFault m w (-8)).2 = 0 := by simpa using c26
   obtain ⟨hv, hw⟩ := potFault_ok h0
   have hl := hv.len
   have hwl := hw.len
   have hol := hv.opsLen
   refine .p <| .z <| .a ?_; refine .sq <| .g <| .g <| .ownNil (n := 8) 8 1 3 rfl ?_; refine .r <| .x (.f fo26_3) ?_; refine .x (.l vs24) ?_; refine .x (.n es24) ?_; refine .m ?_; refine .sq <| .k <| .loop (X := Nat) (fun k => k ≤ m.ops.length) (fun k => [(1, .d (rows w)), (2, .r 2 0), (6, .r 6 0), (7, .r 7 0), (8, .o 8), (29, .d (opsD m.ops)), (30, I (m.ops.length)), (31, I (k))]) (fun k => [(8, .own 1 3 ((List.range k).map fun (i : Nat) => [D.v (.int .i64 (slack w (nth m.ops i)))])), (2, .box [.d (ints m.sizes), .d (ints m.init), .d (asgs m.goal), .d (opsD m.ops)]), (6, .box [I (0), I (0)]), (7, .box [I ((potFault m w (-8)).1), I ((potFault m w (-8)).2)])]) (fun k => m.ops.length - k) 0 (by omega) ?_ ?_
   ·exact .p5 <| .p2 <| .slot rfl (Le.of_eq (by simp)) <| .memEq rfl (by simp) <| .all
   ·rintro k hkl
    refine .g <| .r <| .x (.b blss) ?_; refine .sq <| .g <| .cond rfl (fun c32 => ?_) (fun c32 => ?_)
    ·have hk : k < m.ops.length := by simpa using c32
     have ho := hv.op k hk
     have hpl := asgs_len ho.2.1
     refine .p <| .g <| .g <| .k <| .g <| .r <| .x (.i es24) ?_; refine .x (.lN vs89) ?_; refine .al 10 zc89 ?_; refine .sb vs89 ?_; refine .z <| .x (.f fo89_2) ?_; refine .x (.l vs3) ?_; refine .a ?_; refine .sq <| .g <| .g <| .r <| .x (.f fo89_1) ?_; refine .x (.l vs23) ?_; refine .x (.n es23) ?_; refine .m ?_; refine .sq <| .k <| .loop (X := Nat) (fun j => j ≤ (nth m.ops k).post.length) (fun j => [(1, .d (rows w)), (2, .r 2 0), (6, .r 6 0), (7, .r 7 0), (8, .o 8), (10, .r 10 0), (11, I (slackTo w (nth m.ops k) j)), (29, .d (opsD m.ops)), (30, I (m.ops.length)), (31, I (k)), (38, .d (asgs ((nth m.ops k).post))), (39, I (((nth m.ops k).post).length)), (40, I (j))]) (fun j => [(8, .own 1 3 ((List.range k).map fun (i : Nat) => [D.v (.int .i64 (slack w (nth m.ops i)))])), (2, .box [.d (ints m.sizes), .d (ints m.init), .d (asgs m.goal), .d (opsD m.ops)]), (6, .box [I (0), I (0)]), (7, .box [I ((potFault m w (-8)).1), I ((potFault m w (-8)).2)]), (10, .box [.d (asgs ((nth m.ops k).pre)), .d (asgs ((nth m.ops k).post)), I ((nth m.ops k).cost)])]) (fun j => (nth m.ops k).post.length - j) 0 (by omega) ?_ ?_
     ·exact .p5 <| .p5 <| .p2 <| .slot rfl (Le.of_eq (by simp)) <| .all
     ·rintro j hjl
      refine .g <| .r <| .x (.b blss) ?_; refine .sq <| .g <| .cond rfl (fun c41 => ?_) (fun c41 => ?_)
      ·have hj : j < (nth m.ops k).post.length := by simpa using c41
       have ha := ho.2.1 j hj
       have hg := greatest_in hw hv.sizes ha.1 ha.2.1 ho.1
       have hr := hw.row ha.1 ha.2.1 ha.2.2.1 ha.2.2.2.1
       have hs := slackTo_in hw hv.sizes ho.1 ho.2.1 ho.2.2 j (by omega)
       refine .p <| .g <| .g <| .k <| .g <| .r <| .x (.i es23) ?_; refine .x (.lN vs87) ?_; refine .al 13 zc87 ?_; refine .sb vs87 ?_; refine .sq <| PC.start [] ?_; refine .mm ?_; refine .x (.f fo87_0) ?_; refine .x (.l vs3) ?_; refine .x (.f fo89_0) ?_; refine .x (.l vs23) ?_; refine .x (OpSem.call0 (potential_greatest_does m.sizes _ _ _ hw hv.sizes ha.1 ha.2.1 ho.1) rfl rfl rfl rfl (Les.refl _)) ?_; refine .m ?_; refine .x (.f fo87_0) ?_; refine .x (.l vs3) ?_; refine .x (.i es37) ?_; refine .x (.l1 vs22) ?_; refine .x (.f fo87_1) ?_; refine .x (.l vs3) ?_; refine .x (.i es22) ?_; refine .x (.l1 vs3) ?_; refine .x .su ?_; refine .d0 mixed ?_; refine .x .su ?_; refine .a ?_; refine .n <| .n <| .y <| .x .ad ?_; refine .m ?_; refine .n <| .again (j + 1) (by omega) ?_ (by omega); exact .p5 <| .p5 <| .p2 <| .slot rfl (Le.of_eq (by simp)) <| .all
      ·have hj : j = (nth m.ops k).post.length := by simp at c41; omega
       refine .u <| .u <| .u <| .b <| .y <| .mm ?_; refine .x (.bs es22 ze22) ?_; refine .ap es22 el22 zc3 by3 ?_; refine .a ?_; refine .n <| .n <| .y <| .x .ad ?_; refine .m ?_; refine .n ?_
       subst hj
       refine .again (k + 1) (by omega) ?_ (by omega); exact .p5 <| .p2 <| .slot rfl (Le.of_eq (by simp)) <| .memEq rfl (by simp [List.range_succ, slack]) <| .all
    ·have hk : k = m.ops.length := by simp at c32; omega
     refine .u <| .u <| .u <| .b <| .z <| .a ?_; refine .sq <| .g <| .g <| .r <| .m ?_; refine .x (.n es37) ?_; refine .m ?_; refine .sq <| .k <| .loop (X := Nat) (fun n => n ≤ w.length) (fun n => [(1, .d (rows w)), (2, .r 2 0), (6, .r 6 0), (7, .r 7 0), (8, .o 8), (14, I (goalTo w m.goal n)), (69, I (w.length)), (70, I (n))]) (fun n => [(8, .own 1 3 ((List.range k).map fun (i : Nat) => [D.v (.int .i64 (slack w (nth m.ops i)))])), (2, .box [.d (ints m.sizes), .d (ints m.init), .d (asgs m.goal), .d (opsD m.ops)]), (6, .box [I (0), I (0)]), (7, .box [I ((potFault m w (-8)).1), I ((potFault m w (-8)).2)])]) (fun n => w.length - n) 0 (by omega) ?_ ?_
     ·exact .p5 <| .p2 <| .slot rfl (Le.of_eq (by simp)) <| .all
     ·rintro n hnl
      refine .g <| .r <| .x (.b blss) ?_; refine .sq <| .g <| .cond rfl (fun c71 => ?_) (fun c71 => ?_)
      ·have hn : n < w.length := by simpa using c71
       have hg := greatest_in hw hv.sizes (v := n) (by omega) (by omega) hv.goal
       have hs := goalTo_in hw hv.sizes hv.goal n (by omega)
       refine .p <| .g <| .g <| .k <| .g <| .r <| .m ?_; refine .a ?_; refine .y <| .mm ?_; refine .m ?_; refine .x (.f fo26_2) ?_; refine .x (.l vs23) ?_; refine .x (OpSem.call0 (potential_greatest_does m.sizes _ _ _ hw hv.sizes (by omega) (by omega) hv.goal) rfl rfl rfl rfl (Les.refl _)) ?_; refine .x .ad ?_; refine .a ?_; refine .n <| .n <| .y <| .x .ad ?_; refine .m ?_; refine .n <| .again (n + 1) (by omega) ?_ (by omega); exact .p5 <| .p2 <| .slot rfl (Le.of_eq (by simp)) <| .all
      ·have hn : n = w.length := by simp at c71; omega
       refine .u <| .u <| .u <| .b <| .g <| .g <| PC.start [] ?_; refine .mm ?_; refine .x (.L vs32) ?_; refine .x (OpSem.move (.inr rfl) rfl) ?_; refine .x (OpSem.move (.inr rfl) rfl) ?_; refine .d0 mixed ?_; refine .sb vs32 ?_; refine .sq <| .t ?_
       have he := slackRes_2 h0
       exact .ret rfl (.tmp rfl <| .tmp rfl <| .cellN rfl rfl vs32 <| .nil) rfl (Le.t (.cons (Le.d (by rw [he]; subst hk; have := range_map (slack w) m.ops; simp [← this])) <| .cons (Le.i (by rw [he]; subst hn; rfl)) <| .cons (Le.flt (by rw [he]; exact pair0 h0)) <| .nil))
theorem potential_Admissible_does (m : Multi) (w : List (List Int)) : Does Tryz.prog false 8 [multi m, .d (rows w)] (.t [Bo (adm m w), flt (slackRes m w).2.2]) := by
 refine Does.of_body Tryz.func8 rfl rfl (by simp) Tryz.call8 (fun w0 O0 => ?_); refine .lg 0 0 fun len0_0 => ?_; refine .lg 0 1 fun len0_1 => ?_; refine .lg 0 2 fun len0_2 => ?_; refine .lg 0 3 fun len0_3 => ?_; refine .le 1 fun len1 => ?_; refine .g <| .r <| .bx 2 ?_; refine .a ?_; refine .al 5 zc32 ?_; refine .z <| .x (.L vs26) ?_; refine .m ?_; refine .x (OpSem.call0 (potential_Slack_does ..) rfl rfl rfl rfl (Les.refl _)) ?_; refine .m ?_; refine .x .xt ?_; refine .x .xt ?_; refine .x .xt ?_; refine .al 8 zc32 ?_; refine .a ?_; refine .a ?_; refine .sb vs32 ?_; refine .sq <| .g <| .g <| .r <| .x (.L vs32) ?_; refine .x (.bd pl32 zc32) ?_; refine .x (OpSem.neS2 rfl rfl rfl io32) ?_; refine .sq <| .cond rfl (fun c18 => ?_) (fun c18 => ?_)
 ·have hne : (slackRes m w).2.2 ≠ (0, 0) := fun e => by simp [e] at c18
  refine .g <| PC.start [] ?_; refine .x (.L vs32) ?_; refine .x (OpSem.move (.inr rfl) rfl) ?_; refine .d0 mixed ?_; refine .sb vs32 ?_; exact .sq <| .t <| .t <| .ret rfl (.tmp rfl <| .cellN rfl rfl vs32 <| .nil) rfl (Le.t (.cons (Le.bo (by simp [adm, hne])) <| .cons (.refl _) <| .nil))
 ·have hne : (slackRes m w).2.2 = (0, 0) := pair0 (by simpa using c18)
  refine .p <| .g <| .g <| PC.start [] ?_; refine .m ?_; refine .x (.b bleq) ?_; refine .m ?_; refine .split (n := 22) rfl (fun c22 => ?_) (fun c22 => ?_)
  ·refine .gt (OpSem.move (.inl rfl) rfl) c22 ?_; refine .gt (OpSem.call0 (slices_ContainsFunc_int_int_does _ 22 [] (fun n => decide (n < 0)) (fun n hn => rfl) (fun x _ => potential_Admissible_1_does x)) rfl rfl rfl rfl (Les.refl _)) c22 ?_; refine .gt .nt c22 ?_; refine .x (OpSem.pickT rfl rfl c22 rfl) ?_; refine .x (.L vs32) ?_; refine .x (OpSem.move (.inr rfl) rfl) ?_; refine .d0 mixed ?_; refine .sb vs32 ?_; exact .sq <| .t <| .ret rfl (.tmp rfl <| .cellN rfl rfl vs32 <| .nil) rfl (Le.t (.cons (Le.bo (by simp at c22; simp [adm, hne, c22])) <| .cons (.refl _) <| .nil))
  ·refine .gf c22 ?_; refine .gf c22 ?_; refine .gf c22 ?_; refine .x (OpSem.pickF rfl rfl c22 rfl) ?_; refine .x (.L vs32) ?_; refine .x (OpSem.move (.inr rfl) rfl) ?_; refine .d0 mixed ?_; refine .sb vs32 ?_; exact .sq <| .t <| .ret rfl (.tmp rfl <| .cellN rfl rfl vs32 <| .nil) rfl (Le.t (.cons (Le.bo (by simp at c22; simp [adm, hne]; intro h; omega)) <| .cons (.refl _) <| .nil))
end Go.Proofs.YtgophedpkiidkaaGreat
end

section
namespace Go.Eng
open Go
theorem validate_code {m : Multi} (h : (validate m).1 = 0) : validate m = (0, 0) := by
 unfold validate at h ⊢
 split
 ·rename_i h1; rw [if_pos h1] at h; cases h
 rename_i h1; rw [if_neg h1] at h
 split
 ·rename_i h2; rw [if_pos h2] at h; cases h
 rename_i h2; rw [if_neg h2] at h
 split
 ·rename_i h3; rw [if_pos h3] at h; cases h
 rename_i h3; rw [if_neg h3] at h
 split
 ·rename_i h4; rw [if_pos h4] at h; cases h
 rename_i h4; rw [if_neg h4] at h
 split
 ·rename_i h5; rw [if_pos h5] at h; cases h
 rename_i h5; rw [if_neg h5] at h
 unfold opsFault at h ⊢
 split
 ·rename_i i hi
  rw [hi] at h
  simp only at h
  unfold opFault at h ⊢
  split
  ·rename_i h6; rw [if_pos h6] at h; cases h
  rename_i h6; rw [if_neg h6] at h
  split
  ·rename_i h7; rw [if_pos h7] at h; cases h
  rfl
 ·rfl
theorem stateFault_code {m : Multi} {s : List Int} (h : (stateFault m s).1 = 0) : stateFault m s = (0, 0) := by
 unfold stateFault at h ⊢
 split
 ·rename_i h1; rw [if_pos h1] at h
  split
  ·rfl
  ·rename_i h2; rw [if_neg h2] at h; cases h
 ·rename_i h1; rw [if_neg h1] at h; exact absurd (validate_code h) h1
def addTo (g : Int × Int) (sizes : List Int) (l : List (List (List Int))) : Nat → Int × Int
 | 0 => g
 | k + 1 => addW (addTo g sizes l k) sizes (nth l k) k
theorem addW_ne {f : Int × Int} {sizes : List Int} {w : List (List Int)} {i : Int} (h : f.1 ≠ 0) : addW f sizes w i = f := by unfold addW; rw [if_neg (fun e => h e.1)]
theorem addTo_le {g : Int × Int} {sizes : List Int} {l : List (List (List Int))} {k : Nat} (h : (addTo g sizes l k).1 ≠ 0) : ∀ n, addTo g sizes l (k + n) = addTo g sizes l k
 | 0 => rfl
 | n + 1 => by
  have ih := addTo_le h n
  show addW (addTo g sizes l (k + n)) sizes (nth l ((k + n : Nat) : Int)) _ = _
  rw [ih]; exact addW_ne h
theorem addTo_end {g : Int × Int} {sizes : List Int} {l : List (List (List Int))} {k n : Nat} (hk : k ≤ n) (h : (addTo g sizes l k).1 ≠ 0) : addTo g sizes l k = addTo g sizes l n := by
 obtain ⟨d, rfl⟩ := Nat.exists_eq_add_of_le hk
 exact (addTo_le h d).symm
theorem addTo_g {g : Int × Int} {sizes : List Int} {l : List (List (List Int))} (h : g.1 ≠ 0) (n : Nat) : addTo g sizes l n = g := (addTo_end (k := 0) (Nat.zero_le n) h).symm
theorem addTo_wok {sizes : List Int} {l : List (List (List Int))} {g : Int × Int} : ∀ {n : Nat}, (addTo g sizes l n).1 = 0 → g.1 = 0 ∧ addTo g sizes l n = g ∧ ∀ k : Nat, k < n → wcode sizes (nth l k) = 0
 | 0, h => ⟨h, rfl, fun k hk => absurd hk (Nat.not_lt_zero _)⟩
 | n + 1, h => by
  by_cases h0 : (addTo g sizes l n).1 = 0
  ·obtain ⟨i1, i2, i3⟩ := addTo_wok h0
   simp only [addTo] at h ⊢
   unfold addW at h ⊢
   split at h
   ·rename_i hh; exact absurd h hh.2
   ·rename_i hh
    rw [if_neg hh]
    refine ⟨i1, i2, fun k hk => ?_⟩
    rcases Nat.lt_or_ge k n with hkn | hkn
    ·exact i3 k hkn
    ·have : k = n := by omega
     subst this
     exact Decidable.byContradiction fun hc => hh ⟨h0, hc⟩
  ·exact absurd (addTo_le h0 1 ▸ h) h0
theorem wok_of {sizes : List Int} {w : List (List Int)} (h : wcode sizes w = 0) : WOk sizes w := by obtain ⟨a, b, c⟩ := wcode_ok h; exact ⟨a, b, c⟩
theorem addTo_step0 {sizes : List Int} {l : List (List (List Int))} {g : Int × Int} {k : Nat} (h : addTo g sizes l k = (0, 0)) (hw : (wfault sizes (nth l k) (-8)).1 = 0) : addTo g sizes l (k + 1) = (0, 0) := by
 simp only [addTo, h]
 unfold addW
 rw [if_neg]
 rintro ⟨_, h2⟩
 unfold wfault at hw
 rw [if_neg h2] at hw
 exact h2 hw
theorem addTo_step1 {sizes : List Int} {l : List (List (List Int))} {g : Int × Int} {k n : Nat} (hk : k < n) (h : addTo g sizes l k = (0, 0)) (hw : (wfault sizes (nth l k) (-8)).1 ≠ 0) : ((wfault sizes (nth l k) (-8)).1, (k : Int)) = addTo g sizes l n := by
 have hc : wcode sizes (nth l k) ≠ 0 := fun e => hw (by unfold wfault; rw [if_pos e])
 have he : addTo g sizes l (k + 1) = (wcode sizes (nth l k), (k : Int)) := by
  simp only [addTo, h]
  unfold addW
  rw [if_pos ⟨rfl, hc⟩]
 rw [← addTo_end (k := k + 1) (by omega) (by rw [he]; exact hc), he]
 unfold wfault
 rw [if_neg hc]
theorem wfault_ne {sizes : List Int} {w : List (List Int)} {i : Int} (h : ¬ ((wfault sizes w i).1 = 0 ∧ (wfault sizes w i).2 = 0)) : (wfault sizes w i).1 ≠ 0 := by
 unfold wfault at h ⊢
 split
 ·rename_i h0; rw [if_pos h0] at h; exact absurd ⟨rfl, rfl⟩ h
 ·assumption
def baseF (m : Multi) (l : List (List (List Int))) (s : List Int) : Int × Int :=
 if (stateFault m s).1 = 0 ∧ ¬ (1 ≤ l.length ∧ l.length ≤ 6) then (9, -9) else stateFault m s
theorem baseF_1 {m : Multi} {l : List (List (List Int))} {s : List Int} (h : (stateFault m s).1 = 0 ∧ ¬ (1 ≤ l.length ∧ l.length ≤ 6)) : (9, -9) = baseF m l s := by unfold baseF; rw [if_pos h]
theorem baseF_2 {m : Multi} {l : List (List (List Int))} {s : List Int} (h : ¬ ((stateFault m s).1 = 0 ∧ ¬ (1 ≤ l.length ∧ l.length ≤ 6))) : stateFault m s = baseF m l s := by unfold baseF; rw [if_neg h]
theorem baseF_sizes {m : Multi} {l : List (List (List Int))} {s : List Int} (h : (baseF m l s).1 = 0) : (Valid m ∧ StateP m.sizes s) ∧ 1 ≤ l.length ∧ l.length ≤ 6 := by
 unfold baseF at h
 split at h
 ·cases h
 ·rename_i hh
  exact ⟨stateFault_ok (stateFault_code h), Decidable.byContradiction fun hc => hh ⟨h, hc⟩⟩
def bestF (m : Multi) (l : List (List (List Int))) (s : List Int) : Int × Int := addTo (baseF m l s) m.sizes l l.length
def bestTo (f : Nat → Int) : Nat → Nat
 | 0 => 0
 | k + 1 => if f (bestTo f k) < f k then k else bestTo f k
theorem bestTo_lt {f : Nat → Int} : ∀ {n : Nat}, 0 < n → bestTo f n < n
 | n + 1, _ => by
  simp only [bestTo]
  split
  ·omega
  ·rcases Nat.eq_zero_or_pos n with h | h
   ·subst h; simp [bestTo]
   ·have := bestTo_lt (f := f) h; omega
theorem bestTo_le {f : Nat → Int} : ∀ {n : Nat}, bestTo f n ≤ n
 | 0 => Nat.le_refl _
 | n + 1 => Nat.le_of_lt (bestTo_lt (by omega))
theorem bestTo_t {f : Nat → Int} {k : Nat} (h : f (bestTo f k) < f k) : k = bestTo f (k + 1) := by simp only [bestTo]; rw [if_pos h]
theorem bestTo_f {f : Nat → Int} {k : Nat} (h : ¬ f (bestTo f k) < f k) : bestTo f k = bestTo f (k + 1) := by simp only [bestTo]; rw [if_neg h]
abbrev valL (l : List (List (List Int))) (s : List Int) (i : Nat) : Int := val (nth l i) s
def bestI (l : List (List (List Int))) (s : List Int) : Nat := bestTo (valL l s) l.length
def bestRes (m : Multi) (l : List (List (List Int))) (s : List Int) : Int × Int × (Int × Int) :=
 if bestF m l s = (0, 0) then ((bestI l s : Int), val (nth l (bestI l s)) s, (0, 0)) else (0, 0, bestF m l s)
theorem bestRes_1 {m : Multi} {l : List (List (List Int))} {s : List Int} (h : (bestF m l s).1 ≠ 0) : bestRes m l s = (0, 0, bestF m l s) := by
 unfold bestRes; rw [if_neg (fun e => h (by rw [e]))]
theorem bestRes_2 {m : Multi} {l : List (List (List Int))} {s : List Int} (h : bestF m l s = (0, 0)) : bestRes m l s = ((bestI l s : Int), val (nth l (bestI l s)) s, (0, 0)) := by
 unfold bestRes; rw [if_pos h]
theorem val_in {sizes : List Int} {w : List (List Int)} (hw : WOk sizes w) {s : List Int} (hs : StateP sizes s) (hz : sizes.length ≤ 8) : -8000000 ≤ val w s ∧ val w s ≤ 8000000 := by
 have := valTo_in hw hs s.length (Nat.le_refl _)
 have := hs.1
 unfold val
 omega
theorem bestF_base {m : Multi} {l : List (List (List Int))} {s : List Int} (h : (baseF m l s).1 ≠ 0) : baseF m l s = bestF m l s := (addTo_g h _).symm
theorem bestF_code {m : Multi} {l : List (List (List Int))} {s : List Int} (h : (bestF m l s).1 = 0) : bestF m l s = (0, 0) := by
 obtain ⟨i1, i2, _⟩ := addTo_wok h
 unfold bestF
 rw [i2]
 unfold baseF at i1 ⊢
 split
 ·rename_i hh; rw [if_pos hh] at i1; cases i1
 ·rename_i hh; rw [if_neg hh] at i1; exact stateFault_code i1
theorem bestF_ok {m : Multi} {l : List (List (List Int))} {s : List Int} (h : (bestF m l s).1 = 0) : Valid m ∧ StateP m.sizes s ∧ (1 ≤ l.length ∧ l.length ≤ 6) ∧ ∀ k : Nat, k < l.length → WOk m.sizes (nth l k) := by
 obtain ⟨i1, i2, i3⟩ := addTo_wok h
 obtain ⟨⟨a, b⟩, c⟩ := baseF_sizes i1
 exact ⟨a, b, c, fun k hk => wok_of (i3 k hk)⟩
theorem ext_nth {α : Type} [Inhabited α] {a b : List α} (hl : a.length = b.length) (h : ∀ i : Nat, i < a.length → nth a i = nth b i) : a = b := by
 apply List.ext_getElem hl
 intro i h1 h2
 have := h i h1
 rwa [nth_eq h1, nth_eq h2] at this
def lampsM : Multi := ⟨[2, 2], [0, 0], [(0, 1), (1, 1)], [⟨[], [(0, 1)], 2⟩, ⟨[], [(1, 1)], 3⟩]⟩
end Go.Eng
namespace Go.Eng
open Go
theorem rows_get {α : Type} [Inhabited α] {l : List α} {f : α → List D} {n : Int} (h0 : 0 ≤ n) (h1 : n < l.length) : (l.map f)[n.toNat]? = some (f (nth l n)) := by
 have hk : n.toNat < l.length := by omega
 simp only [List.getElem?_map, List.getElem?_eq_getElem hk, Option.map_some]
 rw [← nth_eq hk, Int.toNat_of_nonneg h0]
def setI {α : Type} (l : List α) (i : Int) (v : α) : List α := l.set i.toNat v
theorem rows_set {α : Type} {l : List α} {f : α → List D} {i : Nat} {v : α} : (l.map f).set i (f v) = (l.set i v).map f := by rw [List.map_set]
theorem setI_len {α : Type} {l : List α} {i : Int} {v : α} : (setI l i v).length = l.length := by simp [setI]
theorem nth_setI {α : Type} [Inhabited α] {l : List α} {i : Int} {v : α} {n : Int} (h0 : 0 ≤ n) (h1 : n < l.length) (hi : 0 ≤ i) : nth (setI l i v) n = if n = i then v else nth l n := by
 have e1 : nth (setI l i v) n = nth (setI l i v) (n.toNat : Int) := by rw [Int.toNat_of_nonneg h0]
 have e2 : nth l n = nth l (n.toNat : Int) := by rw [Int.toNat_of_nonneg h0]
 rw [e1, e2, nth_eq (by rw [setI_len]; omega), nth_eq (by omega)]
 simp only [setI, List.getElem_set]
 by_cases h : n = i
 ·rw [if_pos (by rw [h]), if_pos h]
 ·rw [if_neg (by omega), if_neg h]
def nextTo (s : List Int) (l : List Asg) : Nat → List Int
 | 0 => s
 | k + 1 => setI (nextTo s l k) (nth l k).1 (nth l k).2
theorem nextTo_len {s : List Int} {l : List Asg} : ∀ {k : Nat}, (nextTo s l k).length = s.length
 | 0 => rfl
 | k + 1 => by simp only [nextTo, setI_len]; exact nextTo_len
def nextS (s : List Int) (l : List Asg) : List Int := nextTo s l l.length
theorem nextTo_in {sizes s : List Int} {l : List Asg} (hs : StateP sizes s) (hl : AsgsP sizes l) : ∀ k : Nat, k ≤ l.length → StateP sizes (nextTo s l k)
 | 0, _ => hs
 | k + 1, hk => by
  have ih := nextTo_in hs hl k (by omega)
  have ha := hl k (by omega)
  refine ⟨by rw [nextTo_len]; exact hs.1, fun v hv => ?_⟩
  rw [nextTo_len] at hv
  have hv' := ih.2 v (by rw [nextTo_len]; exact hv)
  simp only [nextTo]
  rw [nth_setI (by omega) (by rw [nextTo_len]; omega) ha.1]
  split
  ·rename_i e; rw [e]; exact ⟨ha.2.2.1, ha.2.2.2.1⟩
  ·exact hv'
theorem nextS_in {sizes s : List Int} {l : List Asg} (hs : StateP sizes s) (hl : AsgsP sizes l) : StateP sizes (nextS s l) := nextTo_in hs hl _ (Nat.le_refl _)
def holds (s : List Int) (l : List Asg) : Bool := !(l.any fun a => !decide (nth s a.1 = a.2))
theorem holds_iff {s : List Int} {l : List Asg} : holds s l = true ↔ ∀ k : Nat, k < l.length → nth s (nth l k).1 = (nth l k).2 := by
 unfold holds
 rw [Bool.not_eq_true', ← Bool.not_eq_true, any_iff]
 constructor
 ·intro h k hk
  exact Decidable.byContradiction fun hc => h ⟨k, hk, by simp [hc]⟩
 ·rintro h ⟨k, hk, hp⟩
  simp [h k hk] at hp
theorem caught_p (l : List D) : Caught [.p l] := by
 intro n hn
 obtain ⟨m, rfl⟩ : ∃ m, n = m + 1 := ⟨n - 1, by omega⟩
 rfl
theorem nth_op {m : Multi} (hv : Valid m) {op : Int} (h0 : 0 ≤ op) (h1 : op < m.ops.length) : AsgsP m.sizes (nth m.ops op).pre ∧ AsgsP m.sizes (nth m.ops op).post ∧ 0 ≤ (nth m.ops op).cost ∧ (nth m.ops op).cost ≤ 100 := by
 have := hv.op op.toNat (by omega)
 rwa [Int.toNat_of_nonneg h0] at this
end Go.Eng
namespace Go.Eng
open Go
theorem valTo_set {w : List (List Int)} {s : List Int} {v x : Int} (h0 : 0 ≤ v) : ∀ {k : Nat}, k ≤ s.length → valTo w (setI s v x) k = valTo w s k + (if v < k then nth (nth w v) x - nth (nth w v) (nth s v) else 0)
 | 0, _ => by rw [if_neg (by omega)]; rfl
 | k + 1, hk => by
  have ih := valTo_set (w := w) (s := s) (v := v) (x := x) h0 (k := k) (by omega)
  simp only [valTo]
  rw [ih, nth_setI (by omega) (by omega) h0]
  by_cases h : (k : Int) = v
  ·rw [if_pos h, if_neg (by omega), if_pos (by omega), h]; omega
  ·rw [if_neg h]
   by_cases h2 : v < (k : Int)
   ·rw [if_pos h2, if_pos (by omega)]; omega
   ·rw [if_neg h2, if_neg (by omega)]; omega
theorem val_set {w : List (List Int)} {s : List Int} {v x : Int} (h0 : 0 ≤ v) (h1 : v < s.length) : val w (setI s v x) = val w s + (nth (nth w v) x - nth (nth w v) (nth s v)) := by
 unfold val
 rw [setI_len, valTo_set h0 (Nat.le_refl _), if_pos h1]
theorem asgs_mono {sizes : List Int} {l : List Asg} (h : AsgsP sizes l) {j : Nat} : ∀ {k : Nat}, j < k → k < l.length → (nth l j).1 < (nth l k).1
 | 0, hj, _ => absurd hj (Nat.not_lt_zero _)
 | k + 1, hj, hk => by
  have := (h (k + 1) hk).2.2.2.2 (by omega)
  have e : ((k + 1 : Nat) : Int) - 1 = (k : Int) := by omega
  rw [e] at this
  rcases Nat.lt_or_ge j k with hjk | hjk
  ·have ih := asgs_mono h hjk (by omega); omega
  ·have : j = k := by omega
   subst this; omega
theorem nextTo_same {s : List Int} {l : List Asg} {v : Int} (h0 : 0 ≤ v) (h1 : v < s.length) : ∀ {k : Nat}, (∀ j : Nat, j < k → (nth l j).1 ≠ v ∧ 0 ≤ (nth l j).1) → nth (nextTo s l k) v = nth s v
 | 0, _ => rfl
 | k + 1, h => by
  have hk := h k (by omega)
  simp only [nextTo]
  rw [nth_setI h0 (by rw [nextTo_len]; exact h1) hk.2, if_neg (fun e => hk.1 e.symm)]
  exact nextTo_same h0 h1 fun j hj => h j (by omega)
def gain (w : List (List Int)) (s : List Int) (l : List Asg) : Nat → Int
 | 0 => 0
 | k + 1 => gain w s l k + (nth (nth w (nth l k).1) (nth s (nth l k).1) - nth (nth w (nth l k).1) (nth l k).2)
theorem val_next {sizes : List Int} {w : List (List Int)} {s : List Int} {l : List Asg} (hs : StateP sizes s) (hl : AsgsP sizes l) : ∀ {k : Nat}, k ≤ l.length → val w (nextTo s l k) = val w s - gain w s l k
 | 0, _ => by simp [nextTo, gain]
 | k + 1, hk => by
  have ih := val_next (w := w) hs hl (k := k) (by omega)
  have ha := hl k (by omega)
  have hsl := hs.1
  simp only [nextTo, gain]
  rw [val_set ha.1 (by rw [nextTo_len]; omega), ih, nextTo_same ha.1 (by omega) (fun j hj => ⟨by have := asgs_mono hl hj (by omega); omega, (hl j (by omega)).1⟩)]
  omega
theorem greatest_ge {sizes : List Int} {w : List (List Int)} {s : List Int} {l : List Asg} {v : Int} (hw : WOk sizes w) (hs : StateP sizes s) (hh : holds s l = true) (h0 : 0 ≤ v) (h1 : v < sizes.length) : nth (nth w v) (nth s v) ≤ greatest w v l := by
 unfold greatest
 split
 ·rename_i i hi
  have hp := List.find?_some hi
  have hm := List.mem_of_find?_eq_some hi
  have hlt : i < l.length := by simpa using hm
  have he := holds_iff.1 hh i hlt
  have hv : (nth l i).1 = v := by simpa using hp
  rw [hv] at he
  rw [he]
  exact Int.le_refl _
 ·have hn := hs.2 v.toNat (by have := hs.1; omega)
  rw [Int.toNat_of_nonneg h0] at hn
  have hr := hw.row h0 h1 hn.1 hn.2
  exact lmax_ge hn.1 hr.1
theorem slackTo_gain {sizes : List Int} {w : List (List Int)} {s : List Int} {o : MOp} (hw : WOk sizes w) (hs : StateP sizes s) (hh : holds s o.pre = true) (hl : AsgsP sizes o.post) : ∀ {k : Nat}, k ≤ o.post.length → gain w s o.post k ≤ o.cost - slackTo w o k
 | 0, _ => by simp [gain, slackTo]
 | k + 1, hk => by
  have ih := slackTo_gain hw hs hh hl (k := k) (by omega)
  have ha := hl k (by omega)
  have hg := greatest_ge hw hs hh ha.1 ha.2.1
  simp only [gain, slackTo]
  omega
theorem val_drop {sizes : List Int} {w : List (List Int)} {s : List Int} {o : MOp} (hw : WOk sizes w) (hs : StateP sizes s) (hh : holds s o.pre = true) (hl : AsgsP sizes o.post) : val w s - val w (nextS s o.post) ≤ o.cost - slack w o := by
 have h1 := val_next (w := w) hs hl (Nat.le_refl _)
 have h2 := slackTo_gain hw hs hh hl (Nat.le_refl _)
 unfold nextS slack
 omega
theorem slack_at {m : Multi} {w : List (List Int)} (h : potFault m w (-8) = (0, 0)) {op : Int} (h0 : 0 ≤ op) (h1 : op < m.ops.length) : (slackRes m w).1.length = m.ops.length ∧ nth (slackRes m w).1 op = slack w (nth m.ops op) := by
 unfold slackRes
 rw [if_pos h]
 refine ⟨by simp, ?_⟩
 have e1 : ∀ l : List Int, nth l op = nth l (op.toNat : Int) := fun l => by rw [Int.toNat_of_nonneg h0]
 have e2 : nth m.ops op = nth m.ops (op.toNat : Int) := by rw [Int.toNat_of_nonneg h0]
 rw [e1, e2, nth_eq (by simp; omega), nth_eq (by omega)]
 simp
end Go.Eng
end

section
namespace Go.Proofs.YtgophedpkiidkaaGreat
open Go.Eng
set_option maxRecDepth 10000
set_option maxHeartbeats 1000000
theorem R_Ints_does (a b : List Int) : Does Tryz.prog false 12 [.d (ints a), .d (ints b)] (Bo (decide (a = b))) := by
 refine Does.of_body Tryz.func12 rfl rfl (by simp) Tryz.call12 (fun w0 O0 => ?_); refine .le 0 fun len0 => ?_; refine .le 1 fun len1 => ?_; refine .g <| .r <| .a ?_; refine .sq <| .g <| .g <| .r <| .m ?_; refine .x (.n es22) ?_; refine .m ?_; refine .x (.n es22) ?_; refine .x (.b bneq) ?_; refine .sq <| .cond rfl (fun c10 => ?_) (fun c10 => ?_)
 ·have hl : a.length ≠ b.length := by simp at c10; omega
  refine .g <| .r <| .a ?_; exact .sq <| .t <| .t <| .ret rfl (.tmp rfl <| .nil) rfl (Le.bo (by simp; intro e; exact hl (by rw [e])))
 ·have hl : a.length = b.length := by simp at c10; omega
  refine .p <| .g <| .g <| .g <| .r <| .a ?_; refine .sq <| .k <| .loop (X := Nat) (fun k => k ≤ a.length ∧ ∀ i : Nat, i < k → nth a i = nth b i) (fun k => [(0, .d (ints a)), (1, .d (ints b)), (5, I (k))]) (fun k => []) (fun k => a.length - k) 0 ⟨by omega, by simp⟩ ?_ ?_
  ·exact .p2 <| .slot rfl (Le.of_eq (by simp)) <| .nil
  ·rintro k ⟨hkl, hinv⟩
   refine .g <| .g <| .r <| .mm ?_; refine .x (.n es22) ?_; refine .x (.b blss) ?_; refine .sq <| .cond rfl (fun c14 => ?_) (fun c14 => ?_)
   ·have hk : k < a.length := by simpa using c14
    refine .p <| .g <| .g <| .k <| .g <| PC.start [] ?_; refine .mm ?_; refine .x (.i es22) ?_; refine .x (.l1 vs3) ?_; refine .mm ?_; refine .x (.i es22) ?_; refine .x (.l1 vs3) ?_; refine .d0 mixed ?_; refine .x (.b bneq) ?_; refine .sq <| .cond rfl (fun c25 => ?_) (fun c25 => ?_)
    ·refine .g <| .r <| .a ?_; exact .sq <| .t <| .k <| .t <| .t <| .k <| .t <| .ret rfl (.tmp rfl <| .nil) rfl (Le.bo (by simp; intro e; simp [e] at c25))
    ·have hb : nth a k = nth b k := by simpa using c25
     refine .p <| .n <| .y <| .m ?_; refine .x .ad ?_; refine .a ?_; refine .n <| .again (k + 1) ⟨by omega, all_succ hinv hb⟩ ?_ (by omega); exact .p2 <| .slot rfl (Le.of_eq (by simp)) <| .nil
   ·have hk : k = a.length := by simp at c14; omega
    refine .u <| .u <| .u <| .b <| .z <| .a ?_; exact .sq <| .t <| .ret rfl (.tmp rfl <| .nil) rfl (Le.bo (by simp; subst hk; exact ext_nth hl hinv))
theorem potential_Best_does (m : Multi) (l : List (List (List Int))) (s : List Int) : Does Tryz.prog false 7 [multi m, .d (rowss l), .d (ints s)] (.t [I (bestRes m l s).1, I (bestRes m l s).2.1, flt (bestRes m l s).2.2]) := by
 refine Does.of_body Tryz.func7 rfl rfl (by simp) Tryz.call7 (fun w0 O0 => ?_); refine .lg 0 0 fun len0_0 => ?_; refine .lg 0 1 fun len0_1 => ?_; refine .lg 0 2 fun len0_2 => ?_; refine .lg 0 3 fun len0_3 => ?_; refine .le 1 fun len1 => ?_; refine .le 2 fun len2 => ?_; refine .g <| .r <| .bx 3 ?_; refine .a ?_; refine .a ?_; refine .al 8 zc32 ?_; refine .sq <| .g <| .g <| .r <| .x (.L vs26) ?_; refine .m ?_; refine .x (OpSem.call0 (multi_StateFault_does ..) rfl rfl rfl rfl (Les.refl _)) ?_; refine .al 9 zc32 ?_; refine .sb vs32 ?_; refine .z <| .x (.L vs32) ?_; refine .x (.bd pl32 zc32) ?_; refine .x (OpSem.neS2 rfl rfl rfl io32) ?_; refine .sq <| .cond rfl (fun c21 => ?_) (fun c21 => ?_)
 ·have h0 : (stateFault m s).1 ≠ 0 := fun h => by simp [stateFault_code h] at c21
  have h1 := baseF_2 (m := m) (l := l) (s := s) (fun h => h0 h.1)
  have hb := h1.trans (bestF_base (by rw [← h1]; exact h0))
  have hr := bestRes_1 (m := m) (l := l) (s := s) (by rw [← hb]; exact h0)
  refine .g <| PC.start [] ?_; refine .x (.L vs32) ?_; refine .x (OpSem.move (.inr rfl) rfl) ?_; refine .x (OpSem.move (.inr rfl) rfl) ?_; refine .d0 mixed ?_; refine .sb vs32 ?_; exact .sq <| .t <| .t <| .ret rfl (.tmp rfl <| .tmp rfl <| .cellN rfl rfl vs32 <| .nil) rfl (Le.t (.cons (Le.i (by rw [hr])) <| .cons (Le.i (by rw [hr])) <| .cons (Le.flt (by rw [hr]; exact hb)) <| .nil))
 ·have h0 : stateFault m s = (0, 0) := pair0 (by simpa using c21)
  obtain ⟨hv, hs⟩ := stateFault_ok h0
  refine .p <| .g <| .g <| .g <| .r <| .m ?_; refine .x (.n es27) ?_; refine .x (.b blss) ?_; refine .m ?_; refine .split (n := 26) rfl (fun c26 => ?_) (fun c26 => ?_)
  ·refine .hf c26 ?_; refine .hf c26 ?_; refine .hf c26 ?_; refine .x (OpSem.pickT rfl rfl c26 rfl) ?_; refine .sq <| .condT rfl rfl ?_; refine .g <| .r <| .x (.bd pl32 zc32) ?_; refine .a ?_; refine .a ?_; refine .sb vs32 ?_; refine .sq <| .t <| .t ?_
   have h9 := baseF_1 (m := m) (l := l) (s := s) ⟨by rw [h0], by simp at c26; omega⟩
   have hb := h9.trans (bestF_base (by rw [← h9]; decide))
   have hr := bestRes_1 (m := m) (l := l) (s := s) (by rw [← hb]; decide)
   exact .ret rfl (.tmp rfl <| .tmp rfl <| .cellN rfl rfl vs32 <| .nil) rfl (Le.t (.cons (Le.i (by rw [hr])) <| .cons (Le.i (by rw [hr])) <| .cons (Le.flt (by rw [hr]; exact hb)) <| .nil))
  ·refine .ht c26 ?_; refine .m ?_; refine .ht c26 ?_; refine .x (.n es27) ?_; refine .ht c26 ?_; refine .x (.b bgtr) ?_; refine .x (OpSem.pickF rfl rfl c26 rfl) ?_; refine .sq <| .cond rfl (fun c30 => ?_) (fun c30 => ?_)
   ·refine .g <| .r <| .x (.bd pl32 zc32) ?_; refine .a ?_; refine .a ?_; refine .sb vs32 ?_; refine .sq <| .t <| .t ?_
    have h9 := baseF_1 (m := m) (l := l) (s := s) ⟨by rw [h0], by simp at c30; omega⟩
    have hb := h9.trans (bestF_base (by rw [← h9]; decide))
    have hr := bestRes_1 (m := m) (l := l) (s := s) (by rw [← hb]; decide)
    exact .ret rfl (.tmp rfl <| .tmp rfl <| .cellN rfl rfl vs32 <| .nil) rfl (Le.t (.cons (Le.i (by rw [hr])) <| .cons (Le.i (by rw [hr])) <| .cons (Le.flt (by rw [hr]; exact hb)) <| .nil))
   ·have hlen : 1 ≤ l.length ∧ l.length ≤ 6 := by simp at c26 c30; omega
    have hb0 : baseF m l s = (0, 0) := by rw [← baseF_2 (fun h => h.2 hlen)]; exact h0
    refine .p <| .g <| .g <| .g <| .r <| .m ?_; refine .x (.n es27) ?_; refine .m ?_; refine .sq <| .k <| .loop (X := Nat) (fun k => k ≤ l.length ∧ addTo (baseF m l s) m.sizes l k = (0, 0)) (fun k => [(1, .d (rowss l)), (2, .d (ints s)), (3, .r 3 0), (8, .r 8 0), (32, .d (rowss l)), (33, I (l.length)), (34, I (k))]) (fun k => [(3, .box [.d (ints m.sizes), .d (ints m.init), .d (asgs m.goal), .d (opsD m.ops)]), (8, .box [I (0), I (0)])]) (fun k => l.length - k) 0 ⟨by omega, hb0⟩ ?_ ?_
    ·exact .p5 <| .sl <| .slot rfl (Le.of_eq (by simp)) <| .all
    ·rintro k ⟨hkl, hinv⟩
     refine .g <| .r <| .x (.b blss) ?_; refine .sq <| .g <| .cond rfl (fun c35 => ?_) (fun c35 => ?_)
     ·have hk : k < l.length := by simpa using c35
      refine .p <| .g <| .g <| .k <| .g <| .r <| .m ?_; refine .x (.i es27) ?_; refine .x (.l1 vs37) ?_; refine .a ?_; refine .a ?_; refine .z <| .x (.L vs26) ?_; refine .m ?_; refine .x (OpSem.call0 (potential_check_does ..) rfl rfl rfl rfl (Les.refl _)) ?_; refine .al 12 zc32 ?_; refine .sb vs32 ?_; refine .z <| .x (.L vs32) ?_; refine .x (.bd pl32 zc32) ?_; refine .x (OpSem.neS2 rfl rfl rfl io32) ?_; refine .sq <| .cond rfl (fun c44 => ?_) (fun c44 => ?_)
      ·have hne := wfault_ne (sizes := m.sizes) (w := nth l k) (i := -8) (fun h => by simp [h.1, h.2] at c44)
       have hb := addTo_step1 hk hinv hne
       have hr := bestRes_1 (m := m) (l := l) (s := s) (by show (addTo _ _ _ _).1 ≠ 0; rw [← hb]; exact hne)
       refine .g <| PC.start [] ?_; refine .x (.f fo32_0) ?_; refine .x (.l vs3) ?_; refine .m ?_; refine .x (.bd pl32 zc32) ?_; refine .x (OpSem.move (.inr rfl) rfl) ?_; refine .x (OpSem.move (.inr rfl) rfl) ?_; refine .d0 mixed ?_; refine .sb vs32 ?_; exact .sq <| .t <| .k <| .t <| .t <| .k <| .t <| .ret rfl (.tmp rfl <| .tmp rfl <| .cellN rfl rfl vs32 <| .nil) rfl (Le.t (.cons (Le.i (by rw [hr])) <| .cons (Le.i (by rw [hr])) <| .cons (Le.flt (by rw [hr]; exact hb)) <| .nil))
      ·have hz : (wfault m.sizes (nth l k) (-8)).1 = 0 := by simp at c44; exact c44.1
       refine .p <| .n <| .y <| .x .ad ?_; refine .m ?_; refine .n <| .again (k + 1) ⟨by omega, addTo_step0 hinv hz⟩ ?_ (by omega); exact .p5 <| .sl <| .slot rfl (Le.of_eq (by simp)) <| .all
     ·have hk : k = l.length := by simp at c35; omega
      have hall : bestF m l s = (0, 0) := by subst hk; exact hinv
      have hw := (bestF_ok (by rw [hall])).2.2.2
      have hr := bestRes_2 hall
      refine .u <| .u <| .u <| .b <| .z <| .a ?_; refine .sq <| .g <| .g <| .r <| .m ?_; refine .x (.n es27) ?_; refine .m ?_; refine .sq <| .k <| .loop (X := Nat) (fun k => k ≤ l.length) (fun k => [(1, .d (rowss l)), (2, .d (ints s)), (8, .r 8 0), (13, I (((bestTo (valL l s) k : Nat) : Int))), (50, .d (rowss l)), (51, I (l.length)), (52, I (k))]) (fun k => [(8, .box [I (0), I (0)])]) (fun k => l.length - k) 0 (by omega) ?_ ?_
      ·exact .p5 <| .sl <| .slot rfl (Le.of_eq (by simp)) <| .mem rfl <| .nil
      ·rintro k hkl
       refine .g <| .r <| .x (.b blss) ?_; refine .sq <| .g <| .cond rfl (fun c53 => ?_) (fun c53 => ?_)
       ·have hk : k < l.length := by simpa using c53
        have hbl : bestTo (valL l s) k < l.length := by have := bestTo_le (f := valL l s) (n := k); omega
        refine .p <| .g <| .g <| .k <| .g <| .r <| .m ?_; refine .x (.i es27) ?_; refine .x (.l1 vs37) ?_; refine .a ?_; refine .a ?_; refine .sq <| .g <| PC.start [] ?_; refine .mm ?_; refine .x (OpSem.call0 (potential_value_does m.sizes _ _ (hw k hk) hs hv.len.2) rfl rfl rfl rfl (Les.refl _)) ?_; refine .mm ?_; refine .x (.i es27) ?_; refine .x (.l1 vs37) ?_; refine .m ?_; refine .d0 mixed ?_; refine .x (OpSem.call0 (potential_value_does m.sizes _ _ (hw _ hbl) hs hv.len.2) rfl rfl rfl rfl (Les.refl _)) ?_; refine .x (.b bgtr) ?_; refine .sq <| .cond rfl (fun c66 => ?_) (fun c66 => ?_)
        ·refine .r <| .m ?_; refine .a ?_; refine .n <| .n <| .y <| .x .ad ?_; refine .m ?_; refine .n <| .again (k + 1) (by omega) ?_ (by omega); exact .p3 <| .slot rfl (Le.i (by rw [← bestTo_t (f := valL l s) (by simpa using c66)])) <| .p2 <| .slot rfl (Le.of_eq (by simp)) <| .mem rfl <| .nil
        ·refine .p <| .n <| .y <| .x .ad ?_; refine .m ?_; refine .n <| .again (k + 1) (by omega) ?_ (by omega); exact .p3 <| .slot rfl (Le.i (by rw [← bestTo_f (f := valL l s) (by simpa using c66)])) <| .p2 <| .slot rfl (Le.of_eq (by simp)) <| .mem rfl <| .nil
       ·have hk : k = l.length := by simp at c53; omega
        have hbl : bestTo (valL l s) k < l.length := by rw [hk]; exact bestTo_lt (by omega)
        refine .u <| .u <| .u <| .b <| .z <| .mm ?_; refine .m ?_; refine .x (.i es27) ?_; refine .x (.l1 vs37) ?_; refine .m ?_; refine .x (OpSem.call0 (potential_value_does m.sizes _ _ (hw _ hbl) hs hv.len.2) rfl rfl rfl rfl (Les.refl _)) ?_; refine .x (.bd pl32 zc32) ?_; refine .a ?_; refine .a ?_; refine .sb vs32 ?_; exact .sq <| .t <| .ret rfl (.tmp rfl <| .tmp rfl <| .cellN rfl rfl vs32 <| .nil) rfl (Le.t (.cons (Le.i (by rw [hr, hk]; rfl)) <| .cons (Le.i (by rw [hr, hk]; rfl)) <| .cons (Le.flt (by rw [hr])) <| .nil))
end Go.Proofs.YtgophedpkiidkaaGreat
end

section
namespace Go.Proofs.YtgophedpkiidkaaGreat
open Go.Eng
set_option maxRecDepth 10000
set_option maxHeartbeats 1000000
theorem slices_Clone_int_int_does (l : List Int) (hl : l.length ≤ 1000000) : DoesO Tryz.prog 123 [.d (ints l)] 1 3 ((l.map fun n => [D.v (.int .i64 n)])) := by
 refine DoesO.of_body Tryz.func123 rfl rfl (by simp) Tryz.call123 (fun w0 O0 => ?_); refine .le 0 fun len0 => ?_; refine .g <| .r <| .a ?_; refine .sq <| .g <| .g <| .r <| .m ?_; refine .eqNil rfl rfl es22 rfl rfl (by decide) (fun b4 hb4 => ?_); refine .sq <| .cond rfl (fun c4 => ?_) (fun c4 => ?_)
 ·refine .g <| .r <| .a ?_; exact .sq <| .t <| .t <| .retONil rfl rfl (hb4 c4)
 ·refine .p <| .z <| .semM (OpSem.buildO 5 rfl es22 (by decide)) rfl rfl (by decide) ?_; refine .m ?_; refine .ap es22 el22 zc3 by3 ?_; refine .a ?_; exact .sq <| .t <| .retO2 rfl rfl rfl (by simp) (by simp)
theorem multi_Holds_1_does (s : List Int) (a : Asg) (h0 : 0 ≤ a.1) (h1 : a.1 < s.length) : Does Tryz.prog false 122 [asgS a, .p [ints s]] (Bo (!decide (nth s a.1 = a.2))) := by
 refine Does.of_body Tryz.func122 rfl rfl (by simp) Tryz.call122 (fun w0 O0 => ?_); refine .g <| .r <| .bx 2 ?_; refine .a ?_; refine .sq <| .g <| PC.start [] ?_; refine .x (.l1 vs22) ?_; refine .x (.f fo87_0) ?_; refine .x (.l vs3) ?_; refine .x (.i es22) ?_; refine .x (.l1 vs3) ?_; refine .x (.f fo87_1) ?_; refine .x (.l vs3) ?_; refine .d0 mixed ?_; refine .x (.b bneq) ?_; refine .a ?_; exact .sq <| .t <| .ret rfl (.tmp rfl <| .nil) rfl (.refl _)
theorem multi_Holds_does (s : List Int) (l : List Asg) (h : ∀ x, x ∈ l → 0 ≤ x.1 ∧ x.1 < s.length) : Does Tryz.prog false 91 [.d (ints s), .d (asgs l)] (Bo (holds s l)) := by
 refine Does.of_body Tryz.func91 rfl rfl (by simp) Tryz.call91 (fun w0 O0 => ?_); refine .le 0 fun len0 => ?_; refine .le 1 fun len1 => ?_; refine .g <| .r <| .bx 2 ?_; refine .a ?_; refine .z <| .m ?_; refine .x (OpSem.makeFunc rfl rfl rfl) ?_; refine .x (OpSem.call (slices_ContainsFunc_Assign_Assign_does l 122 [.p [ints s]] (fun a => !decide (nth s a.1 = a.2)) (caught_p _) (fun x hx => multi_Holds_1_does s x (h x hx).1 (h x hx).2)) (.inr rfl) rfl rfl rfl rfl (Les.refl _)) ?_; refine .x .nt ?_; refine .a ?_; exact .sq <| .t <| .ret rfl (.tmp rfl <| .nil) rfl (.refl _)
theorem multi_Next_does (m : Multi) (s : List Int) (op : Int) (hv : Valid m) (hs : StateP m.sizes s) (h0 : 0 ≤ op) (h1 : op < m.ops.length) : DoesO Tryz.prog 92 [multi m, .d (ints s), I (op)] 1 3 (((nextS s (nth m.ops op).post).map fun n => [D.v (.int .i64 n)])) := by
 have ho := nth_op hv h0 h1
 have hl := hv.len
 have hsl := hs.1
 have hpl := asgs_len ho.2.1
 refine DoesO.of_body Tryz.func92 rfl rfl (by simp) Tryz.call92 (fun w0 O0 => ?_); refine .lg 0 0 fun len0_0 => ?_; refine .lg 0 1 fun len0_1 => ?_; refine .lg 0 2 fun len0_2 => ?_; refine .lg 0 3 fun len0_3 => ?_; refine .le 1 fun len1 => ?_; refine .g <| .r <| .bx 3 ?_; refine .a ?_; refine .z <| .m ?_; refine .semM (OpSem.callO 11 (slices_Clone_int_int_does s (by omega)) rfl rfl rfl rfl (Les.refl _)) rfl rfl (by decide) ?_; refine .a ?_; refine .sq <| .g <| .g <| .r <| .x (.f fo26_3) ?_; refine .x (.l vs24) ?_; refine .m ?_; refine .x (.i es24) ?_; refine .x (OpSem.fieldp rfl rfl fo89_1) ?_; refine .x (.l1 vs23) ?_; refine .x (.n es23) ?_; refine .m ?_; refine .sq <| .k <| .loop (X := Nat) (fun k => k ≤ (nth m.ops op).post.length) (fun k => [(7, .o 11), (17, .d (asgs ((nth m.ops op).post))), (18, I (((nth m.ops op).post).length)), (19, I (k))]) (fun k => [(11, .own 1 3 ((nextTo s (nth m.ops op).post k).map fun n => [D.v (.int .i64 n)]))]) (fun k => (nth m.ops op).post.length - k) 0 (by omega) ?_ ?_
 ·exact .p3 <| .slot rfl (Le.of_eq (by simp)) <| .mem rfl <| .nil
 ·rintro k hkl
  refine .g <| .r <| .x (.b blss) ?_; refine .sq <| .g <| .cond rfl (fun c20 => ?_) (fun c20 => ?_)
  ·have hk : k < (nth m.ops op).post.length := by simpa using c20
   have ha := ho.2.1 k hk
   have hn := nextTo_len (s := s) (l := (nth m.ops op).post) (k := k)
   refine .p <| .g <| .g <| .k <| .g <| .r <| .x (.i es23) ?_; refine .x (.lN vs87) ?_; refine .al 9 zc87 ?_; refine .sb vs87 ?_; refine .y <| .m ?_; refine .x (.f fo87_0) ?_; refine .x (.l vs3) ?_; refine .x (.f fo87_1) ?_; refine .x (.l vs3) ?_; refine .x (OpSem.idxo rfl rfl rfl rfl es22 (by omega) (by simp; omega)) ?_; refine .storeq rfl rfl rfl rfl rfl rfl rfl vs3 (rows_get (by omega) (by omega)) (by simp) ?_; refine .n <| .n <| .y <| .x .ad ?_; refine .m ?_; refine .n <| .again (k + 1) (by omega) ?_ (by omega); exact .p3 <| .slot rfl (Le.of_eq (by simp)) <| .memEq rfl (congrArg (Mo.own 1 3) (rows_set (f := fun n => [D.v (.int .i64 n)]))) <| .nil
  ·have hk : k = (nth m.ops op).post.length := by simp at c20; omega
   refine .u <| .u <| .u <| .b <| .z <| .m ?_; refine .a ?_; exact .sq <| .t <| .retO2 rfl rfl rfl (by simp) (by rw [hk]; rfl)
end Go.Proofs.YtgophedpkiidkaaGreat
end

section
namespace Go.Eng
open Go Go.RowKit
theorem DoesO.fresh {P : Program} {f : Nat} {args : List S} {k T : Nat} {rows : List (List D)} (h : DoesO P f args k T rows) : Does P true f args (.d (.s k rows)) :=
 ⟨h.can, fun O w xs hl hx => (h.run O w xs hl hx).mono fun en w' ⟨x, he, hb, hr⟩ => ⟨x, he, hb, by
  rcases hr with ⟨rfl, rfl⟩ | ⟨b, cap, xs', rfl, hB, hbl, hlc, hcm, hsz, hw, hc⟩
  ·exact .d _ _ (.e none 0 k (by simp [maxLen]))
  ·refine .d _ _ (.s b 0 cap k rows (fun n => (xs'[n]?).getD undef) hlc hcm hw (fun _ _ _ _ _ _ => by simp [freshO, Fr, hB]) (fun i r j d hi hj => ?_) (fun i r j d hi hj => ?_))
   ·obtain ⟨y, hy, _⟩ := hc i r j d hi hj
    rw [cellOf hbl (by rw [Nat.zero_add]; exact hy), hy]; rfl
   ·obtain ⟨y, hy, rfl, _⟩ := hc i r j d hi hj
    simp only [hy, Option.getD_some]
    exact .v _⟩⟩
def ranksTo (sizes : List Int) : Nat → Int
 | 0 => 1
 | k + 1 => ranksTo sizes k * nth sizes k
def ranks (sizes : List Int) : Int := ranksTo sizes sizes.length
theorem ranksTo_in {sizes : List Int} (h : SizesP sizes) : ∀ {k : Nat}, k ≤ sizes.length → 1 ≤ ranksTo sizes k ∧ ranksTo sizes k ≤ 6 ^ k
 | 0, _ => by simp [ranksTo]
 | k + 1, hk => by
  have ih := ranksTo_in h (k := k) (by omega)
  have hs := h k (by omega)
  simp only [ranksTo]
  constructor
  ·have := Int.mul_le_mul ih.1 hs.1 (by omega) (by omega)
   omega
  ·have := Int.mul_le_mul ih.2 hs.2 (by omega) (by omega)
   rw [Int.pow_succ]; exact this
theorem pow6_le {k : Nat} (h : k ≤ 8) : (6 : Int) ^ k ≤ 1679616 := by
 have : k = 0 ∨ k = 1 ∨ k = 2 ∨ k = 3 ∨ k = 4 ∨ k = 5 ∨ k = 6 ∨ k = 7 ∨ k = 8 := by omega
 rcases this with rfl | rfl | rfl | rfl | rfl | rfl | rfl | rfl | rfl <;> decide
theorem ranks_in {m : Multi} (hv : Valid m) : 1 ≤ ranks m.sizes ∧ ranks m.sizes ≤ 1679616 := by
 have h := ranksTo_in hv.sizes (Nat.le_refl _)
 have := pow6_le hv.len.2
 unfold ranks
 omega
def quoTo (sizes : List Int) (n : Int) : Nat → Int
 | 0 => n
 | j + 1 => quoTo sizes n j / nth sizes (sizes.length - 1 - j : Nat)
def digit (sizes : List Int) (n : Int) (v : Nat) : Int := quoTo sizes n (sizes.length - 1 - v) % nth sizes v
def unrank (sizes : List Int) (n : Int) : List Int := (List.range sizes.length).map fun (v : Nat) => digit sizes n v
theorem unrank_state {sizes : List Int} (h : SizesP sizes) {n : Int} : StateP sizes (unrank sizes n) := by
 refine ⟨by simp [unrank], fun v hv => ?_⟩
 have hv' : v < sizes.length := by simpa [unrank] using hv
 have hs := h v hv'
 rw [nth_eq hv]
 simp only [unrank, List.getElem_map, List.getElem_range, digit]
 exact ⟨Int.emod_nonneg _ (by omega), Int.emod_lt_of_pos _ (by omega)⟩
def rankTo (sizes s : List Int) : Nat → Int
 | 0 => 0
 | k + 1 => rankTo sizes s k * nth sizes k + nth s k
def rank (sizes s : List Int) : Int := rankTo sizes s s.length
theorem rankTo_in {sizes s : List Int} (h : SizesP sizes) (hs : StateP sizes s) : ∀ {k : Nat}, k ≤ s.length → 0 ≤ rankTo sizes s k ∧ rankTo sizes s k < ranksTo sizes k
 | 0, _ => by simp [rankTo, ranksTo]
 | k + 1, hk => by
  have ih := rankTo_in h hs (k := k) (by omega)
  have hz := h k (by have := hs.1; omega)
  have hx := hs.2 k (by omega)
  simp only [rankTo, ranksTo]
  constructor
  ·have := Int.mul_nonneg ih.1 (show 0 ≤ nth sizes k by omega); omega
  ·have h1 := Int.mul_le_mul_of_nonneg_right (show rankTo sizes s k + 1 ≤ ranksTo sizes k by omega) (show 0 ≤ nth sizes k by omega)
   rw [Int.add_mul, Int.one_mul] at h1
   omega
theorem rank_in {sizes s : List Int} (h : SizesP sizes) (hs : StateP sizes s) : 0 ≤ rank sizes s ∧ rank sizes s < ranks sizes := by
 have := rankTo_in h hs (Nat.le_refl _)
 unfold rank ranks
 rw [← hs.1]
 exact this
theorem quoTo_rank {sizes s : List Int} (h : SizesP sizes) (hs : StateP sizes s) : ∀ {j : Nat}, j ≤ sizes.length → quoTo sizes (rank sizes s) j = rankTo sizes s (sizes.length - j)
 | 0, _ => by simp only [quoTo, rank]; rw [hs.1]; rfl
 | j + 1, hj => by
  have ih := quoTo_rank h hs (j := j) (by omega)
  have hz := h (sizes.length - 1 - j) (by omega)
  have hx := hs.2 (sizes.length - 1 - j) (by have := hs.1; omega)
  simp only [quoTo]
  rw [ih, show sizes.length - j = (sizes.length - 1 - j) + 1 by omega]
  simp only [rankTo]
  rw [show sizes.length - (j + 1) = sizes.length - 1 - j by omega]
  rw [Int.add_comm, Int.add_mul_ediv_right _ _ (by omega), Int.ediv_eq_zero_of_lt hx.1 hx.2]
  omega
theorem unrank_rank {sizes s : List Int} (h : SizesP sizes) (hs : StateP sizes s) : unrank sizes (rank sizes s) = s := by
 have hu := unrank_state (n := rank sizes s) h
 apply ext_nth (hu.1.trans hs.1.symm)
 intro v hv
 have hv' : v < sizes.length := by rw [← hu.1]; exact hv
 have hx := hs.2 v (by have := hs.1; omega)
 rw [nth_eq hv]
 simp only [unrank, List.getElem_map, List.getElem_range, digit]
 rw [quoTo_rank h hs (by omega), show sizes.length - (sizes.length - 1 - v) = v + 1 by omega]
 simp only [rankTo]
 rw [Int.add_comm, Int.add_mul_emod_self_right, Int.emod_eq_of_lt hx.1 hx.2]
section
variable {p : List Int → Bool} {f : List Int → Int} {sizes : List Int}
end
theorem unrank_toNat {sizes s : List Int} (h : SizesP sizes) (hs : StateP sizes s) : unrank sizes ((rank sizes s).toNat : Int) = s ∧ (rank sizes s).toNat < (ranks sizes).toNat := by
 have hr := rank_in h hs
 rw [Int.toNat_of_nonneg hr.1]
 exact ⟨unrank_rank h hs, by omega⟩
theorem valTo_goal {sizes : List Int} {w : List (List Int)} {s : List Int} {l : List Asg} (hw : WOk sizes w) (hs : StateP sizes s) (hh : holds s l = true) : ∀ {k : Nat}, k ≤ s.length → valTo w s k ≤ goalTo w l k
 | 0, _ => Int.le_refl _
 | k + 1, hk => by
  have ih := valTo_goal hw hs hh (k := k) (by omega)
  have := greatest_ge hw hs hh (v := k) (by omega) (by have := hs.1; omega)
  simp only [valTo, goalTo]
  omega
end Go.Eng
end

section
namespace Go.Proofs.YtgophedpkiidkaaGreat
open Go.Eng
set_option maxRecDepth 10000
set_option maxHeartbeats 1000000
end Go.Proofs.YtgophedpkiidkaaGreat
end

section
namespace Go.Eng
open Go
abbrev stAt (m : Multi) (n : Nat) : List Int := unrank m.sizes n
def rkAt (m : Multi) (n j : Nat) : Int := rank m.sizes (nextS (stAt m n) (nth m.ops j).post)
def initC (m : Multi) (k : Nat) : List Int := (List.range k).map fun n => if holds (stAt m n) m.goal = true then 0 else 1000000000
def stepC (m : Multi) (c : List Int × Bool) (n j : Nat) : List Int × Bool :=
 if holds (stAt m n) (nth m.ops j).pre = true then
  if nth c.1 (rkAt m n j) < 1000000000 ∧ nth c.1 (rkAt m n j) + (nth m.ops j).cost < nth c.1 n then (setI c.1 n (nth c.1 (rkAt m n j) + (nth m.ops j).cost), true) else c
 else c
def opsTo (m : Multi) (c : List Int × Bool) (n : Nat) : Nat → List Int × Bool
 | 0 => c
 | j + 1 => stepC m (opsTo m c n j) n j
def sweepTo (m : Multi) (c : List Int) : Nat → List Int × Bool
 | 0 => (c, false)
 | n + 1 => opsTo m (sweepTo m c n) n m.ops.length
def nR (m : Multi) : Nat := (ranks m.sizes).toNat
def sweep (m : Multi) (c : List Int) : List Int × Bool := sweepTo m c (nR m)
def itC (m : Multi) : Nat → List Int
 | 0 => initC m (nR m)
 | j + 1 => (sweep m (itC m j)).1
open Classical in
noncomputable def costs (m : Multi) : List Int := if h : ∃ j, (sweep m (itC m j)).2 = false then itC m (Classical.choose h) else List.replicate (nR m) 1000000000
theorem initC_len {m : Multi} {k : Nat} : (initC m k).length = k := by simp [initC]
section
variable {m : Multi} (hv : Valid m)
theorem nR_in (hv : Valid m) : 1 ≤ nR m ∧ nR m ≤ 1679616 ∧ (nR m : Int) = ranks m.sizes := by
 have := ranks_in hv
 unfold nR
 omega
include hv
theorem st_state {n : Nat} : StateP m.sizes (stAt m n) := unrank_state hv.sizes
theorem rkAt_in {n j : Nat} (hj : j < m.ops.length) : 0 ≤ rkAt m n j ∧ rkAt m n j < nR m := by
 have := rank_in hv.sizes (nextS_in (st_state hv (n := n)) (hv.op j hj).2.1)
 have h2 := nR_in hv
 unfold rkAt
 omega
def GoodC (m : Multi) (c : List Int) : Prop := c.length = nR m ∧ ∀ n : Int, 0 ≤ n → n < nR m → 0 ≤ nth c n ∧ nth c n ≤ 1000000000
theorem initC_good : GoodC m (initC m (nR m)) := by
 refine ⟨initC_len, fun n h0 h1 => ?_⟩
 have e : nth (initC m (nR m)) n = nth (initC m (nR m)) (n.toNat : Int) := by rw [Int.toNat_of_nonneg h0]
 rw [e, nth_eq (by rw [initC_len]; omega)]
 simp only [initC, List.getElem_map, List.getElem_range]
 split <;> omega
theorem stepC_keep {q : List Int → Prop} {c : List Int × Bool} {n j : Nat} (hj : j < m.ops.length) (hg : GoodC m c.1) (hq : q c.1) (hn : n < nR m)
  (hs : holds (stAt m n) (nth m.ops j).pre = true → nth c.1 (rkAt m n j) < 1000000000 → nth c.1 (rkAt m n j) + (nth m.ops j).cost < nth c.1 n → q (setI c.1 n (nth c.1 (rkAt m n j) + (nth m.ops j).cost))) :
  GoodC m (stepC m c n j).1 ∧ q (stepC m c n j).1 := by
 unfold stepC
 split
 ·rename_i hp
  split
  ·rename_i hk
   refine ⟨⟨by rw [setI_len]; exact hg.1, fun i h0 h1 => ?_⟩, hs hp hk.1 hk.2⟩
   have hr := rkAt_in hv (n := n) hj
   have h2 := hg.2 _ hr.1 hr.2
   have h3 := hg.2 n (by omega) (by omega)
   have h4 := hg.2 i h0 h1
   have ho := (hv.op j hj).2.2
   show 0 ≤ nth (setI c.1 n _) i ∧ _
   rw [nth_setI h0 (by rw [hg.1]; exact h1) (by omega)]
   split <;> omega
  ·exact ⟨hg, hq⟩
 ·exact ⟨hg, hq⟩
theorem opsTo_keep {q : List Int → Prop} {c : List Int × Bool} {n : Nat} (hg : GoodC m c.1) (hq : q c.1) (hn : n < nR m)
  (hs : ∀ (c : List Int) (j : Nat), j < m.ops.length → GoodC m c → q c → holds (stAt m n) (nth m.ops j).pre = true → nth c (rkAt m n j) < 1000000000 → nth c (rkAt m n j) + (nth m.ops j).cost < nth c n → q (setI c n (nth c (rkAt m n j) + (nth m.ops j).cost))) :
  ∀ {k : Nat}, k ≤ m.ops.length → GoodC m (opsTo m c n k).1 ∧ q (opsTo m c n k).1
 | 0, _ => ⟨hg, hq⟩
 | k + 1, hk => by
  obtain ⟨h1, h2⟩ := opsTo_keep hg hq hn hs (k := k) (by omega)
  exact stepC_keep hv (by omega) h1 h2 hn (fun hp a b => hs _ k (by omega) h1 h2 hp a b)
theorem sweepTo_keep {q : List Int → Prop} {c : List Int} (hg : GoodC m c) (hq : q c)
  (hs : ∀ (c : List Int) (n j : Nat), n < nR m → j < m.ops.length → GoodC m c → q c → holds (stAt m n) (nth m.ops j).pre = true → nth c (rkAt m n j) < 1000000000 → nth c (rkAt m n j) + (nth m.ops j).cost < nth c n → q (setI c n (nth c (rkAt m n j) + (nth m.ops j).cost))) :
  ∀ {k : Nat}, k ≤ nR m → GoodC m (sweepTo m c k).1 ∧ q (sweepTo m c k).1
 | 0, _ => ⟨hg, hq⟩
 | k + 1, hk => by
  obtain ⟨h1, h2⟩ := sweepTo_keep hg hq hs (k := k) (by omega)
  exact opsTo_keep hv h1 h2 (by omega) (fun c j hj a b d e f => hs c k j (by omega) hj a b d e f) (Nat.le_refl _)
theorem itC_keep {q : List Int → Prop} (hq : q (initC m (nR m)))
  (hs : ∀ (c : List Int) (n j : Nat), n < nR m → j < m.ops.length → GoodC m c → q c → holds (stAt m n) (nth m.ops j).pre = true → nth c (rkAt m n j) < 1000000000 → nth c (rkAt m n j) + (nth m.ops j).cost < nth c n → q (setI c n (nth c (rkAt m n j) + (nth m.ops j).cost))) :
  ∀ j : Nat, GoodC m (itC m j) ∧ q (itC m j)
 | 0 => ⟨initC_good hv, hq⟩
 | j + 1 => by
  obtain ⟨h1, h2⟩ := itC_keep hq hs j
  exact sweepTo_keep hv h1 h2 hs (Nat.le_refl _)
theorem itC_good (j : Nat) : GoodC m (itC m j) := (itC_keep hv (q := fun _ => True) trivial (fun _ _ _ _ _ _ _ _ _ _ => trivial) j).1
theorem sweepTo_good {c : List Int} (hg : GoodC m c) {k : Nat} (hk : k ≤ nR m) : GoodC m (sweepTo m c k).1 := (sweepTo_keep hv (q := fun _ => True) hg trivial (fun _ _ _ _ _ _ _ _ _ _ => trivial) hk).1
theorem opsTo_good {c : List Int × Bool} {n : Nat} (hg : GoodC m c.1) (hn : n < nR m) {k : Nat} (hk : k ≤ m.ops.length) : GoodC m (opsTo m c n k).1 := (opsTo_keep hv (q := fun _ => True) hg trivial hn (fun _ _ _ _ _ _ _ _ => trivial) hk).1
end
theorem sum_set : ∀ {l : List Int} {i : Nat} {x : Int} (h : i < l.length), (l.set i x).sum = l.sum - l[i] + x
 | a :: l, 0, x, h => by simp; omega
 | a :: l, i + 1, x, h => by
  have := sum_set (l := l) (i := i) (x := x) (by simpa using h)
  simp only [List.set_cons_succ, List.sum_cons, List.getElem_cons_succ]
  omega
theorem sum_nn : ∀ {l : List Int}, (∀ x, x ∈ l → 0 ≤ x) → 0 ≤ l.sum
 | [], _ => by simp
 | a :: l, h => by
  have h1 := h a (by simp)
  have h2 := sum_nn (l := l) (fun x hx => h x (by simp [hx]))
  simp only [List.sum_cons]
  omega
def Down (c0 : List Int) (c : List Int × Bool) : Prop := (c.2 = false ∧ c.1 = c0) ∨ (c.2 = true ∧ c.1.sum < c0.sum)
section
variable {m : Multi} (hv : Valid m)
include hv
theorem stepC_down {c0 : List Int} {c : List Int × Bool} {n j : Nat} (hj : j < m.ops.length) (hn : n < nR m) (hg : GoodC m c.1) (hd : Down c0 c) : Down c0 (stepC m c n j) := by
 unfold stepC
 split
 ·split
  ·rename_i hk
   right
   refine ⟨rfl, ?_⟩
   have hlt : n < c.1.length := by rw [hg.1]; exact hn
   have h1 : (setI c.1 n (nth c.1 (rkAt m n j) + (nth m.ops j).cost)).sum < c.1.sum := by
    have h2 := hk.2
    rw [nth_eq hlt] at h2
    simp only [setI, Int.toNat_natCast]
    rw [sum_set hlt]
    omega
   rcases hd with ⟨_, e⟩ | ⟨_, e⟩
   ·rw [← e]; exact h1
   ·exact Int.lt_trans h1 e
  ·exact hd
 ·exact hd
theorem opsTo_down {c0 : List Int} {c : List Int × Bool} {n : Nat} (hn : n < nR m) (hg : GoodC m c.1) (hd : Down c0 c) : ∀ {k : Nat}, k ≤ m.ops.length → Down c0 (opsTo m c n k)
 | 0, _ => hd
 | k + 1, hk => stepC_down hv (by omega) hn (opsTo_good hv hg hn (by omega)) (opsTo_down hn hg hd (k := k) (by omega))
theorem sweepTo_down {c : List Int} (hg : GoodC m c) : ∀ {k : Nat}, k ≤ nR m → Down c (sweepTo m c k)
 | 0, _ => .inl ⟨rfl, rfl⟩
 | k + 1, hk => opsTo_down hv (by omega) (sweepTo_good hv hg (by omega)) (sweepTo_down hg (k := k) (by omega)) (Nat.le_refl _)
theorem sum_good {c : List Int} (hg : GoodC m c) : 0 ≤ c.sum := sum_nn fun x hx => by
 obtain ⟨i, hi, rfl⟩ := List.getElem_of_mem hx
 have := (hg.2 i (by omega) (by rw [← hg.1]; omega)).1
 rwa [nth_eq hi] at this
theorem itC_next (j : Nat) : ((sweep m (itC m j)).2 = false ∧ itC m (j + 1) = itC m j) ∨ ((sweep m (itC m j)).2 = true ∧ (itC m (j + 1)).sum < (itC m j).sum) := sweepTo_down hv (itC_good hv j) (Nat.le_refl _)
omit hv in
theorem itC_stay {j : Nat} (h : (sweep m (itC m j)).2 = false) (he : itC m (j + 1) = itC m j) : ∀ d, itC m (j + d) = itC m j
 | 0 => rfl
 | d + 1 => by
  have ih := itC_stay h he d
  show (sweep m (itC m (j + d))).1 = _
  rw [ih]; exact he
theorem itC_uniq {i j : Nat} (hi : (sweep m (itC m i)).2 = false) (hj : (sweep m (itC m j)).2 = false) : itC m i = itC m j := by
 have ei : itC m (i + 1) = itC m i := by rcases itC_next hv i with h | h; exact h.2; rw [h.1] at hi; cases hi
 have ej : itC m (j + 1) = itC m j := by rcases itC_next hv j with h | h; exact h.2; rw [h.1] at hj; cases hj
 rcases Nat.le_total i j with h | h
 ·obtain ⟨d, rfl⟩ := Nat.exists_eq_add_of_le h; exact (itC_stay hi ei d).symm
 ·obtain ⟨d, rfl⟩ := Nat.exists_eq_add_of_le h; exact itC_stay hj ej d
theorem costs_of {j : Nat} (hj : (sweep m (itC m j)).2 = false) : itC m j = costs m := by
 unfold costs
 rw [dif_pos ⟨j, hj⟩]
 exact itC_uniq hv hj (Classical.choose_spec (⟨j, hj⟩ : ∃ j, (sweep m (itC m j)).2 = false))
theorem costs_stay {j : Nat} (hj : (sweep m (itC m j)).2 = false) : itC m (j + 1) = costs m := by
 rw [← costs_of hv hj]
 rcases itC_next hv j with h | h
 ·exact h.2
 ·rw [h.1] at hj; cases hj
theorem costs_good : GoodC m (costs m) := by
 unfold costs
 split
 ·exact itC_good hv _
 ·refine ⟨by simp, fun n h0 h1 => ?_⟩
  have e : nth (List.replicate (nR m) (1000000000 : Int)) n = nth (List.replicate (nR m) (1000000000 : Int)) (n.toNat : Int) := by rw [Int.toNat_of_nonneg h0]
  rw [e, nth_eq (by simp; omega)]
  simp
theorem costs_ge {f : List Int → Int} (h1 : ∀ s, StateP m.sizes s → f s ≤ 1000000000) (h2 : ∀ s, StateP m.sizes s → holds s m.goal = true → f s ≤ 0)
  (h3 : ∀ s, StateP m.sizes s → ∀ j : Nat, j < m.ops.length → holds s (nth m.ops j).pre = true → f s ≤ f (nextS s (nth m.ops j).post) + (nth m.ops j).cost) {s : List Int} (hs : StateP m.sizes s) : f s ≤ nth (costs m) (rank m.sizes s) := by
 have key : ∀ j : Nat, ∀ n : Nat, n < nR m → f (stAt m n) ≤ nth (itC m j) n := fun j => (itC_keep hv (q := fun c => ∀ n : Nat, n < nR m → f (stAt m n) ≤ nth c n) (fun n hn => by
  rw [nth_eq (by rw [initC_len]; exact hn)]
  simp only [initC, List.getElem_map, List.getElem_range]
  split
  ·rename_i hh; exact h2 _ (st_state hv) hh
  ·exact h1 _ (st_state hv)) (fun c n j hn hj hg hq hp _ hk i hi => by
   have hst := st_state hv (n := n)
   rw [nth_setI (by omega) (by rw [hg.1]; omega) (by omega)]
   split
   ·rename_i e
    have e' : i = n := by omega
    rw [e']
    have hns := nextS_in hst (hv.op j hj).2.1
    have hr := rkAt_in hv (n := n) hj
    have h4 := h3 _ hst j hj hp
    have h5 := hq (rkAt m n j).toNat (by omega)
    rw [Int.toNat_of_nonneg hr.1] at h5
    have h6 : stAt m (rkAt m n j).toNat = nextS (stAt m n) (nth m.ops j).post := (unrank_toNat hv.sizes hns).1
    rw [h6] at h5
    omega
   ·exact hq i hi) j).2
 obtain ⟨e1, e2⟩ := unrank_toNat hv.sizes hs
 have hr := rank_in hv.sizes hs
 have hk : ∀ n : Nat, n < nR m → f (stAt m n) ≤ nth (costs m) n := by
  unfold costs
  split
  ·exact key _
  ·intro n hn
   rw [nth_eq (by simpa using hn)]
   simp only [List.getElem_replicate]
   exact h1 _ (st_state hv)
 have := hk (rank m.sizes s).toNat e2
 rw [Int.toNat_of_nonneg hr.1] at this
 have h7 : stAt m (rank m.sizes s).toNat = s := e1
 rwa [h7] at this
end
def flagC (m : Multi) : Nat → Bool
 | 0 => true
 | j + 1 => (sweep m (itC m j)).2
section
variable {m : Multi} (hv : Valid m)
include hv
theorem flag_lt {j : Nat} (h : flagC m j = true) : (itC m (j + 1)).sum.toNat + (if flagC m (j + 1) = true then 1 else 0) < (itC m j).sum.toNat + (if flagC m j = true then 1 else 0) := by
 have h1 := sum_good hv (itC_good hv (j + 1))
 have h2 := sum_good hv (itC_good hv j)
 rw [if_pos h]
 show _ + (if (sweep m (itC m j)).2 = true then 1 else 0) < _
 rcases itC_next hv j with ⟨a, b⟩ | ⟨a, b⟩
 ·rw [a, b]; simp
 ·rw [a]; simp; omega
theorem flag_end {j : Nat} (h : flagC m j = false) : itC m j = costs m := by
 cases j with
 | zero => cases h
 | succ j => exact costs_stay hv h
end
theorem stepC_0 {m : Multi} {c : List Int × Bool} {n j : Nat} (h : holds (stAt m n) (nth m.ops j).pre = false) : stepC m c n j = c := by unfold stepC; rw [if_neg (by simp [h])]
theorem stepC_1 {m : Multi} {c : List Int × Bool} {n j : Nat} (h : holds (stAt m n) (nth m.ops j).pre = true) (h1 : nth c.1 (rkAt m n j) < 1000000000) (h2 : nth c.1 (rkAt m n j) + (nth m.ops j).cost < nth c.1 n) : stepC m c n j = (setI c.1 n (nth c.1 (rkAt m n j) + (nth m.ops j).cost), true) := by
 unfold stepC; rw [if_pos h, if_pos ⟨h1, h2⟩]
theorem stepC_2 {m : Multi} {c : List Int × Bool} {n j : Nat} (h1 : ¬ (nth c.1 (rkAt m n j) < 1000000000 ∧ nth c.1 (rkAt m n j) + (nth m.ops j).cost < nth c.1 n)) : stepC m c n j = c := by
 unfold stepC; rw [if_neg h1]; split <;> rfl
end Go.Eng
namespace Go.Eng
open Go
abbrev PatOk (sizes vars : List Int) (i : Nat) : Prop := 0 ≤ nth vars i ∧ nth vars i < sizes.length ∧ (0 < i → nth vars (i - 1 : Int) < nth vars i)
abbrev PatP (sizes vars : List Int) : Prop := ∀ i : Nat, i < vars.length → PatOk sizes vars i
def patCode (sizes vars : List Int) : Int := if vars.length = 0 then 9 else if ¬ PatP sizes vars then 5 else 0
theorem patCode_9 {sizes vars : List Int} (h : vars.length = 0) : 9 = patCode sizes vars := by unfold patCode; rw [if_pos h]
theorem patCode_5 {sizes vars : List Int} (h : vars.length ≠ 0) (k : Nat) (hk : k < vars.length) (hb : ¬ PatOk sizes vars k) : 5 = patCode sizes vars := by
 unfold patCode; rw [if_neg h, if_pos (fun hh => hb (hh k hk))]
theorem patCode_0 {sizes vars : List Int} (h : vars.length ≠ 0) (hh : PatP sizes vars) : 0 = patCode sizes vars := by unfold patCode; rw [if_neg h, if_neg (by simpa using hh)]
theorem patCode_ok {sizes vars : List Int} (h : patCode sizes vars = 0) : vars.length ≠ 0 ∧ PatP sizes vars := by
 unfold patCode at h
 split at h
 ·cases h
 ·rename_i h1
  split at h
  ·cases h
  ·rename_i h2; exact ⟨h1, Decidable.not_not.1 h2⟩
def patFault (sizes vars : List Int) (i : Int) : Int × Int := if patCode sizes vars = 0 then (0, 0) else (patCode sizes vars, i)
theorem patFault_bad {sizes vars : List Int} {c i : Int} (h : c = patCode sizes vars) (hc : c ≠ 0) : (c, i) = patFault sizes vars i := by unfold patFault; rw [if_neg (by rw [← h]; exact hc), ← h]
theorem patFault_ok {sizes vars : List Int} {i : Int} (h : 0 = patCode sizes vars) : (0, 0) = patFault sizes vars i := by unfold patFault; rw [if_pos h.symm]
def sel (s vars : List Int) : List Int := vars.map fun v => nth s v
def selTo (s vars : List Int) (k : Nat) : List Int := (List.range k).map fun (i : Nat) => nth s (nth vars i)
theorem selTo_s {s vars : List Int} {k : Nat} : selTo s vars (k + 1) = selTo s vars k ++ [nth s (nth vars k)] := by simp [selTo, List.range_succ]
theorem selTo_len {s vars : List Int} {k : Nat} : (selTo s vars k).length = k := by simp [selTo]
theorem pat_ge {sizes vars : List Int} (h : PatP sizes vars) : ∀ i : Nat, i < vars.length → (i : Int) ≤ nth vars i
 | 0, hi => by simpa using (h 0 hi).1
 | i + 1, hi => by
  have ih := pat_ge h i (by omega)
  have := (h (i + 1) hi).2.2 (by omega)
  have e : ((i + 1 : Nat) : Int) - 1 = (i : Int) := by omega
  rw [e] at this
  omega
theorem pat_len {sizes vars : List Int} (h : PatP sizes vars) : vars.length ≤ sizes.length := by
 by_cases hl : vars.length = 0
 ·omega
 ·have := pat_ge h (vars.length - 1) (by omega)
  have := (h (vars.length - 1) (by omega)).2.1
  omega
def prodTo (sizes vars : List Int) : Nat → Int
 | 0 => 1
 | k + 1 => prodTo sizes vars k * nth sizes (nth vars k)
theorem prodTo_in {sizes vars : List Int} (h : SizesP sizes) (hp : PatP sizes vars) : ∀ {k : Nat}, k ≤ vars.length → 1 ≤ prodTo sizes vars k ∧ prodTo sizes vars k ≤ 6 ^ k
 | 0, _ => by simp [prodTo]
 | k + 1, hk => by
  have ih := prodTo_in h hp (k := k) (by omega)
  have hs := nth_size h (hp k (by omega)).1 (hp k (by omega)).2.1
  simp only [prodTo]
  constructor
  ·have := Int.mul_le_mul ih.1 hs.1 (by omega) (by omega)
   omega
  ·have := Int.mul_le_mul ih.2 hs.2 (by omega) (by omega)
   rw [Int.pow_succ]; exact this
def matchR (a : Asg) (vars : List Int) : Nat → List Asg
 | 0 => []
 | j + 1 => if a.1 = nth vars j then matchR a vars j ++ [((j : Int), a.2)] else matchR a vars j
theorem matchR_len {a : Asg} {vars : List Int} : ∀ {j : Nat}, (matchR a vars j).length ≤ j
 | 0 => by simp [matchR]
 | j + 1 => by
  have := matchR_len (a := a) (vars := vars) (j := j)
  simp only [matchR]
  split
  ·simp; omega
  ·omega
def restrictTo (l : List Asg) (vars : List Int) : Nat → List Asg
 | 0 => []
 | k + 1 => restrictTo l vars k ++ matchR (nth l k) vars vars.length
theorem restrictTo_len {l : List Asg} {vars : List Int} : ∀ {k : Nat}, (restrictTo l vars k).length ≤ k * vars.length
 | 0 => by simp [restrictTo]
 | k + 1 => by
  have := restrictTo_len (l := l) (vars := vars) (k := k)
  have := matchR_len (a := nth l k) (vars := vars) (j := vars.length)
  simp only [restrictTo, List.length_append, Nat.succ_mul]
  omega
end Go.Eng
end

section
namespace Go.Proofs.YtgophedpkiidkaaGreat
open Go.Eng
set_option maxRecDepth 10000
set_option maxHeartbeats 1000000
end Go.Proofs.YtgophedpkiidkaaGreat
end

section
namespace Go.Eng
open Go
abbrev SortedA (l : List Asg) : Prop := l.Pairwise fun a b => a.1 < b.1
theorem ext_get {α : Type} [Inhabited α] {l l' : List α} (hl : l.length = l'.length) (h : ∀ i : Nat, i < l.length → nth l i = nth l' i) : l = l' := by
 refine List.ext_getElem hl fun i h1 h2 => ?_
 have := h i h1
 rwa [nth_eq h1, nth_eq h2] at this
theorem asgs_mono2 {sizes : List Int} {l : List Asg} (h : AsgsP sizes l) : ∀ (d i : Nat), i + d + 1 < l.length → (nth l i).1 < (nth l (i + d + 1 : Nat)).1
 | 0, i, hi => by
  have := (h (i + 1) (by omega)).2.2.2.2 (by omega)
  have e : ((i + 1 : Nat) : Int) - 1 = (i : Int) := by omega
  rw [e] at this
  exact this
 | d + 1, i, hi => by
  have h1 := asgs_mono2 h d i (by omega)
  have := (h (i + (d + 1) + 1) (by omega)).2.2.2.2 (by omega)
  have e : ((i + (d + 1) + 1 : Nat) : Int) - 1 = ((i + d + 1 : Nat) : Int) := by omega
  rw [e] at this
  exact Int.lt_trans h1 this
theorem asgsP_sorted {sizes : List Int} {l : List Asg} (h : AsgsP sizes l) : SortedA l := by
 rw [SortedA, List.pairwise_iff_getElem]
 intro i j hi hj hij
 have := asgs_mono2 h (j - i - 1) i (by omega)
 have e : i + (j - i - 1) + 1 = j := by omega
 rw [e, nth_eq hi, nth_eq hj] at this
 exact this
theorem asgsP_mem {sizes : List Int} {l : List Asg} (h : AsgsP sizes l) {a : Asg} (ha : a ∈ l) : 0 ≤ a.1 ∧ a.1 < sizes.length ∧ 0 ≤ a.2 ∧ a.2 < nth sizes a.1 := by
 obtain ⟨i, hi, rfl⟩ := List.getElem_of_mem ha
 have := h i hi
 unfold AsgOk at this
 rw [nth_eq hi] at this
 exact ⟨this.1, this.2.1, this.2.2.1, this.2.2.2.1⟩
theorem asgsP_of {sizes : List Int} {l : List Asg} (hs : SortedA l) (hm : ∀ a, a ∈ l → 0 ≤ a.1 ∧ a.1 < sizes.length ∧ 0 ≤ a.2 ∧ a.2 < nth sizes a.1) : AsgsP sizes l := fun i hi => by
 have h1 := hm l[i] (List.getElem_mem hi)
 rw [SortedA, List.pairwise_iff_getElem] at hs
 unfold AsgOk
 rw [nth_eq hi]
 refine ⟨h1.1, h1.2.1, h1.2.2.1, h1.2.2.2, fun h0 => ?_⟩
 have e : (i : Int) - 1 = ((i - 1 : Nat) : Int) := by omega
 rw [e, nth_eq (by omega)]
 exact hs (i - 1) i (by omega) hi (by omega)
theorem mem_matchR {a x : Asg} {vars : List Int} : ∀ {k : Nat}, x ∈ matchR a vars k ↔ ∃ j : Nat, j < k ∧ a.1 = nth vars j ∧ x = ((j : Int), a.2)
 | 0 => by simp [matchR]
 | k + 1 => by
  simp only [matchR]
  constructor
  ·intro h
   split at h
   ·simp only [List.mem_append, List.mem_singleton] at h
    rcases h with h | h
    ·obtain ⟨j, h1, h2⟩ := mem_matchR.1 h; exact ⟨j, by omega, h2⟩
    ·exact ⟨k, by omega, by assumption, h⟩
   ·obtain ⟨j, h1, h2⟩ := mem_matchR.1 h; exact ⟨j, by omega, h2⟩
  ·rintro ⟨j, h1, h2, h3⟩
   by_cases hj : j = k
   ·subst hj
    rw [if_pos h2]; simp [h3]
   ·have := mem_matchR.2 ⟨j, (by omega : j < k), h2, h3⟩
    split
    ·simp [this]
    ·exact this
theorem mem_restrictTo {x : Asg} {l : List Asg} {vars : List Int} : ∀ {k : Nat}, x ∈ restrictTo l vars k ↔ ∃ i : Nat, i < k ∧ ∃ j : Nat, j < vars.length ∧ (nth l i).1 = nth vars j ∧ x = ((j : Int), (nth l i).2)
 | 0 => by simp [restrictTo]
 | k + 1 => by
  simp only [restrictTo, List.mem_append, mem_restrictTo (k := k), mem_matchR]
  constructor
  ·rintro (⟨i, h1, h2⟩ | h)
   ·exact ⟨i, by omega, h2⟩
   ·exact ⟨k, by omega, h⟩
  ·rintro ⟨i, h1, h2⟩
   by_cases hi : i = k
   ·subst hi; exact .inr h2
   ·exact .inl ⟨i, by omega, h2⟩
theorem pat_mono {sizes vars : List Int} (h : PatP sizes vars) : ∀ (d i : Nat), i + d + 1 < vars.length → nth vars i < nth vars (i + d + 1 : Nat)
 | 0, i, hi => by
  have := (h (i + 1) (by omega)).2.2 (by omega)
  have e : ((i + 1 : Nat) : Int) - 1 = (i : Int) := by omega
  rw [e] at this
  exact this
 | d + 1, i, hi => by
  have h1 := pat_mono h d i (by omega)
  have := (h (i + (d + 1) + 1) (by omega)).2.2 (by omega)
  have e : ((i + (d + 1) + 1 : Nat) : Int) - 1 = ((i + d + 1 : Nat) : Int) := by omega
  rw [e] at this
  exact Int.lt_trans h1 this
theorem pat_lt {sizes vars : List Int} (h : PatP sizes vars) {i j : Nat} (hij : i < j) (hj : j < vars.length) : nth vars i < nth vars j := by
 have := pat_mono h (j - i - 1) i (by omega)
 have e : i + (j - i - 1) + 1 = j := by omega
 rwa [e] at this
theorem pat_lt' {sizes vars : List Int} (h : PatP sizes vars) {i j : Nat} (hi : i < vars.length) (hj : j < vars.length) (hl : nth vars i < nth vars j) : i < j := by
 rcases Nat.lt_trichotomy i j with h1 | h1 | h1
 ·exact h1
 ·subst h1; omega
 ·have := pat_lt h h1 hi; omega
theorem sorted_get {l : List Asg} (hs : SortedA l) {i j : Nat} (hij : i < j) (hj : j < l.length) : (nth l i).1 < (nth l j).1 := by
 rw [SortedA, List.pairwise_iff_getElem] at hs
 rw [nth_eq (by omega), nth_eq hj]
 exact hs i j (by omega) hj hij
theorem matchR_sorted {a : Asg} {vars : List Int} : ∀ {k : Nat}, SortedA (matchR a vars k)
 | 0 => by simp [matchR]
 | k + 1 => by
  simp only [matchR]
  split
  ·rw [SortedA, List.pairwise_append]
   refine ⟨matchR_sorted, by simp, fun x hx y hy => ?_⟩
   obtain ⟨j, h1, _, h3⟩ := mem_matchR.1 hx
   simp at hy
   subst hy; subst h3
   simp; omega
  ·exact matchR_sorted
theorem restrictTo_sorted {sizes vars : List Int} (hp : PatP sizes vars) {l : List Asg} (hs : SortedA l) : ∀ {k : Nat}, k ≤ l.length → SortedA (restrictTo l vars k)
 | 0, _ => by simp [restrictTo]
 | k + 1, hk => by
  simp only [restrictTo]
  rw [SortedA, List.pairwise_append]
  refine ⟨restrictTo_sorted hp hs (by omega), matchR_sorted, fun x hx y hy => ?_⟩
  obtain ⟨i, h1, j, h2, h3, h4⟩ := mem_restrictTo.1 hx
  obtain ⟨j', h2', h3', h4'⟩ := mem_matchR.1 hy
  subst h4; subst h4'
  have := sorted_get hs h1 (by omega)
  rw [h3, h3'] at this
  have := pat_lt' hp h2 h2' this
  show (j : Int) < (j' : Int)
  omega
def restr (l : List Asg) (vars : List Int) : List Asg := restrictTo l vars l.length
theorem mem_restr {x : Asg} {l : List Asg} {vars : List Int} : x ∈ restr l vars ↔ ∃ a, a ∈ l ∧ ∃ j : Nat, j < vars.length ∧ a.1 = nth vars j ∧ x = ((j : Int), a.2) := by
 unfold restr
 rw [mem_restrictTo]
 constructor
 ·rintro ⟨i, h1, j, h2, h3, h4⟩
  exact ⟨nth l i, nth_mem (by omega) (by omega), j, h2, h3, h4⟩
 ·rintro ⟨a, ha, j, h2, h3, h4⟩
  obtain ⟨i, hi, rfl⟩ := List.getElem_of_mem ha
  exact ⟨i, hi, j, h2, by rw [nth_eq hi]; exact h3, by rw [nth_eq hi]; exact h4⟩
theorem restr_sorted {sizes vars : List Int} (hp : PatP sizes vars) {l : List Asg} (hs : SortedA l) : SortedA (restr l vars) := restrictTo_sorted hp hs (Nat.le_refl _)
theorem selTo_end {s vars : List Int} : selTo s vars vars.length = sel s vars := by
 refine List.ext_getElem (by simp [selTo, sel]) fun i h1 h2 => ?_
 have hi : i < vars.length := by simpa [sel] using h2
 simp only [selTo, sel, List.getElem_map, List.getElem_range]
 rw [nth_eq hi]
theorem sel_len {s vars : List Int} : (sel s vars).length = vars.length := by simp [sel]
theorem nth_sel {s vars : List Int} {i : Nat} (hi : i < vars.length) : nth (sel s vars) i = nth s (nth vars i) := by
 rw [nth_eq (by rw [sel_len]; exact hi)]
 simp only [sel, List.getElem_map]
 rw [nth_eq hi]
def projM (m : Multi) (vars : List Int) : Multi := ⟨sel m.sizes vars, sel m.init vars, restr m.goal vars, m.ops.map fun o => ⟨restr o.pre vars, restr o.post vars, o.cost⟩⟩
theorem projM_ops {m : Multi} {vars : List Int} : (projM m vars).ops.length = m.ops.length := by simp [projM]
theorem projM_op {m : Multi} {vars : List Int} {j : Nat} (hj : j < m.ops.length) : nth (projM m vars).ops j = ⟨restr (nth m.ops j).pre vars, restr (nth m.ops j).post vars, (nth m.ops j).cost⟩ := by
 rw [nth_eq (by rw [projM_ops]; exact hj)]
 simp only [projM, List.getElem_map]
 rw [nth_eq hj]
section
variable {sizes vars : List Int} (hp : PatP sizes vars)
include hp
theorem sel_state {s : List Int} (hs : StateP sizes s) : StateP (sel sizes vars) (sel s vars) := by
 refine ⟨by rw [sel_len, sel_len], fun v hv => ?_⟩
 rw [sel_len] at hv
 have hb := hp v hv
 rw [nth_sel hv, nth_sel hv]
 have h1 := hs.1
 have h2 := hs.2 (nth vars v).toNat (by omega)
 rw [Int.toNat_of_nonneg hb.1] at h2
 exact h2
theorem restr_asgs {l : List Asg} (h : AsgsP sizes l) : AsgsP (sel sizes vars) (restr l vars) := asgsP_of (restr_sorted hp (asgsP_sorted h)) fun a ha => by
 obtain ⟨b, hb, j, h1, h2, rfl⟩ := mem_restr.1 ha
 have h3 := asgsP_mem h hb
 have h4 : nth (sel sizes vars) (j : Int) = nth sizes (nth vars j) := nth_sel h1
 show 0 ≤ (j : Int) ∧ (j : Int) < (sel sizes vars).length ∧ 0 ≤ b.2 ∧ b.2 < nth (sel sizes vars) (j : Int)
 rw [sel_len, h4, ← h2]
 exact ⟨by omega, by omega, h3.2.2.1, h3.2.2.2⟩
theorem sel_sizes (hs : SizesP sizes) : SizesP (sel sizes vars) := fun v hv => by
 rw [sel_len] at hv
 rw [nth_sel hv]
 exact nth_size hs (hp v hv).1 (hp v hv).2.1
end
theorem valid_proj {m : Multi} {vars : List Int} (hv : Valid m) (h0 : vars.length ≠ 0) (hp : PatP m.sizes vars) : Valid (projM m vars) := {
 len := by have := pat_len hp; have := hv.len; show 1 ≤ (sel m.sizes vars).length ∧ (sel m.sizes vars).length ≤ 8; rw [sel_len]; omega
 sizes := sel_sizes hp hv.sizes
 init := sel_state hp hv.init
 goal := restr_asgs hp hv.goal
 opsLen := by rw [projM_ops]; exact hv.opsLen
 op := fun i hi => by
  rw [projM_ops] at hi
  rw [projM_op hi]
  have := hv.op i hi
  exact ⟨restr_asgs hp this.1, restr_asgs hp this.2.1, this.2.2⟩ }
theorem nextTo_at {sizes s : List Int} {l : List Asg} (hl : AsgsP sizes l) (hs : s.length = sizes.length) {v : Int} (h0 : 0 ≤ v) (h1 : v < sizes.length) : ∀ {k : Nat}, k ≤ l.length →
  (∀ i : Nat, i < k → (nth l i).1 = v → nth (nextTo s l k) v = (nth l i).2) ∧ ((∀ i : Nat, i < k → (nth l i).1 ≠ v) → nth (nextTo s l k) v = nth s v)
 | 0, _ => ⟨fun i hi => by omega, fun _ => rfl⟩
 | k + 1, hk => by
  obtain ⟨ih1, ih2⟩ := nextTo_at hl hs h0 h1 (k := k) (by omega)
  have hb := hl k (by omega)
  have hn := nextTo_len (s := s) (l := l) (k := k)
  have e : nth (nextTo s l (k + 1)) v = if v = (nth l k).1 then (nth l k).2 else nth (nextTo s l k) v := nth_setI h0 (by omega) hb.1
  rw [e]
  constructor
  ·intro i hi hiv
   by_cases hik : i = k
   ·subst hik; rw [if_pos hiv.symm]
   ·have := sorted_get (asgsP_sorted hl) (i := i) (j := k) (by omega) (by omega)
    rw [if_neg (by omega)]
    exact ih1 i (by omega) hiv
  ·intro h
   rw [if_neg (fun e => h k (by omega) e.symm)]
   exact ih2 fun i hi => h i (by omega)
theorem nextS_mem {sizes s : List Int} {l : List Asg} (hl : AsgsP sizes l) (hs : s.length = sizes.length) {a : Asg} (ha : a ∈ l) : nth (nextS s l) a.1 = a.2 := by
 have hb := asgsP_mem hl ha
 obtain ⟨i, hi, rfl⟩ := List.getElem_of_mem ha
 have := (nextTo_at hl hs hb.1 hb.2.1 (Nat.le_refl _)).1 i hi (by rw [nth_eq hi])
 rw [nth_eq hi] at this
 exact this
theorem nextS_not {sizes s : List Int} {l : List Asg} (hl : AsgsP sizes l) (hs : s.length = sizes.length) {v : Int} (h0 : 0 ≤ v) (h1 : v < sizes.length) (h : ∀ a, a ∈ l → a.1 ≠ v) : nth (nextS s l) v = nth s v :=
 (nextTo_at hl hs h0 h1 (Nat.le_refl _)).2 fun i hi => h _ (nth_mem (by omega) (by omega))
section
variable {m : Multi} (hv : Valid m)
include hv
theorem costs_ex : ∃ j, (sweep m (itC m j)).2 = false := by
 refine Classical.byContradiction fun hc => ?_
 have hall : ∀ j, (sweep m (itC m j)).2 = true := fun j => by
  cases h : (sweep m (itC m j)).2 with
  | true => rfl
  | false => exact (hc ⟨j, h⟩).elim
 have hdown : ∀ j : Nat, (itC m j).sum + j ≤ (itC m 0).sum := fun j => by
  induction j with
  | zero => simp
  | succ j ih =>
   rcases itC_next hv j with ⟨a, _⟩ | ⟨_, b⟩
   ·rw [hall j] at a; cases a
   ·omega
 have h1 := hdown ((itC m 0).sum.toNat + 1)
 have h2 := sum_good hv (itC_good hv ((itC m 0).sum.toNat + 1))
 omega
omit hv in
theorem stepC_flag {c : List Int × Bool} {n j : Nat} (h : (stepC m c n j).2 = false) (hh : c.2 = false) : stepC m c n j = c := by
 unfold stepC at h ⊢
 split at h
 ·rename_i hp
  rw [if_pos hp]
  split at h
  ·cases h
  ·rename_i hk; rw [if_neg hk]
 ·rename_i hp; rw [if_neg hp]
omit hv in
theorem stepC_true {c : List Int × Bool} {n j : Nat} (hh : c.2 = true) : (stepC m c n j).2 = true := by
 unfold stepC
 split
 ·split
  ·rfl
  ·exact hh
 ·exact hh
omit hv in
theorem opsTo_true {c : List Int × Bool} {n : Nat} (hh : c.2 = true) : ∀ k : Nat, (opsTo m c n k).2 = true
 | 0 => hh
 | k + 1 => stepC_true (opsTo_true hh k)
omit hv in
theorem opsTo_flag {c : List Int × Bool} {n : Nat} : ∀ {k : Nat}, (opsTo m c n k).2 = false → c.2 = false ∧ opsTo m c n k = c ∧ ∀ j : Nat, j < k → stepC m c n j = c
 | 0, h => ⟨h, rfl, fun j hj => by omega⟩
 | k + 1, h => by
  have h1 : (opsTo m c n k).2 = false := by
   cases hf : (opsTo m c n k).2 with
   | false => rfl
   | true => have := stepC_true (m := m) (n := n) (j := k) hf; have h' : (stepC m (opsTo m c n k) n k).2 = false := h; rw [this] at h'; cases h'
  obtain ⟨a, b, d⟩ := opsTo_flag h1
  have h2 : stepC m (opsTo m c n k) n k = opsTo m c n k := stepC_flag h h1
  refine ⟨a, by show stepC m (opsTo m c n k) n k = c; rw [h2, b], fun j hj => ?_⟩
  by_cases hjk : j = k
  ·subst hjk; rw [b] at h2; exact h2
  ·exact d j (by omega)
omit hv in
theorem sweepTo_flag {c : List Int} : ∀ {k : Nat}, (sweepTo m c k).2 = false → sweepTo m c k = (c, false) ∧ ∀ n : Nat, n < k → ∀ j : Nat, j < m.ops.length → stepC m (c, false) n j = (c, false)
 | 0, h => ⟨rfl, fun n hn => by omega⟩
 | k + 1, h => by
  obtain ⟨a, b, d⟩ := opsTo_flag (c := sweepTo m c k) h
  obtain ⟨e, f⟩ := sweepTo_flag a
  refine ⟨by show opsTo m (sweepTo m c k) k m.ops.length = _; rw [b, e], fun n hn j hj => ?_⟩
  by_cases hnk : n = k
  ·subst hnk; have := d j hj; rwa [e] at this
  ·exact f n (by omega) j hj
theorem costs_tri {s : List Int} (hs : StateP m.sizes s) {j : Nat} (hj : j < m.ops.length) (hp : holds s (nth m.ops j).pre = true) :
  nth (costs m) (rank m.sizes s) ≤ nth (costs m) (rank m.sizes (nextS s (nth m.ops j).post)) + (nth m.ops j).cost := by
 obtain ⟨i, hi⟩ := costs_ex hv
 have hc := costs_of hv hi
 obtain ⟨_, h2⟩ := sweepTo_flag hi
 obtain ⟨e1, e2⟩ := unrank_toNat hv.sizes hs
 have h3 := h2 _ e2 j hj
 have hr := rank_in hv.sizes hs
 have hst : stAt m (rank m.sizes s).toNat = s := e1
 have hg := costs_good hv
 have hN := nR_in hv
 have hb := hg.2 _ hr.1 (by omega)
 have ho := (hv.op j hj).2.2.1
 rw [hc] at h3
 refine Decidable.byContradiction fun hcon => ?_
 have h4 : nth (costs m) (rkAt m (rank m.sizes s).toNat j) < 1000000000 ∧ nth (costs m) (rkAt m (rank m.sizes s).toNat j) + (nth m.ops j).cost < nth (costs m) ((rank m.sizes s).toNat : Int) := by
  unfold rkAt
  rw [hst, Int.toNat_of_nonneg hr.1]
  omega
 unfold stepC at h3
 rw [if_pos (by rw [hst]; exact hp), if_pos h4] at h3
 have h5 := congrArg Prod.snd h3
 cases h5
theorem costs_goal {s : List Int} (hs : StateP m.sizes s) (hh : holds s m.goal = true) : nth (costs m) (rank m.sizes s) = 0 := by
 have hg := costs_good hv
 have hN := nR_in hv
 have hr := rank_in hv.sizes hs
 have hb := hg.2 _ hr.1 (by omega)
 obtain ⟨i, hi⟩ := costs_ex hv
 have hc := costs_of hv hi
 obtain ⟨e1, e2⟩ := unrank_toNat hv.sizes hs
 have key := (itC_keep hv (q := fun c => nth c ((rank m.sizes s).toNat : Int) ≤ 0) (by
  rw [nth_eq (by rw [initC_len]; exact e2)]
  simp only [initC, List.getElem_map, List.getElem_range]
  rw [if_pos (by show holds (unrank m.sizes _) m.goal = true; rw [e1]; exact hh)]
  omega) (fun c n j hn hj hg hq _ _ hlt => by
   rw [nth_setI (by omega) (by rw [hg.1]; unfold nR; omega) (by omega)]
   split
   ·rename_i e; rw [← e] at hlt; omega
   ·exact hq) i).2
 rw [hc, Int.toNat_of_nonneg hr.1] at key
 omega
end
section
variable {sizes W vars : List Int} (hW : PatP sizes W) (hp : PatP sizes vars) (hin : ∀ i : Nat, i < vars.length → nth vars i ∈ W)
include hin
include hW hp
end
theorem prodTo_ranks {sizes vars : List Int} : ∀ {k : Nat}, k ≤ vars.length → prodTo sizes vars k = ranksTo (sel sizes vars) k
 | 0, _ => rfl
 | k + 1, hk => by
  simp only [prodTo, ranksTo]
  rw [prodTo_ranks (k := k) (by omega), nth_sel (by omega)]
theorem prod_ranks {m : Multi} {vars : List Int} : prodTo m.sizes vars vars.length = ranks (projM m vars).sizes := by
 unfold ranks
 rw [prodTo_ranks (Nat.le_refl _)]
 show _ = ranksTo (sel m.sizes vars) (sel m.sizes vars).length
 rw [sel_len]
end Go.Eng
end

section
namespace Go.Eng
open Go
def expR (s : List Int) (c : Nat) : List (List Int) := (List.range c).map fun (v : Nat) => s ++ [(v : Int)]
theorem expR_s {s : List Int} {c : Nat} : expR s (c + 1) = expR s c ++ [s ++ [(c : Int)]] := by simp [expR, List.range_succ]
theorem expR_len {s : List Int} {c : Nat} : (expR s c).length = c := by simp [expR]
def expTo (l : List (List Int)) (c : Nat) : Nat → List (List Int)
 | 0 => []
 | i + 1 => expTo l c i ++ expR (nth l i) c
theorem expTo_len {l : List (List Int)} {c : Nat} : ∀ {i : Nat}, (expTo l c i).length = i * c
 | 0 => by simp [expTo]
 | i + 1 => by simp only [expTo, List.length_append, expR_len, expTo_len (i := i), Nat.succ_mul]
def statesTo (sizes : List Int) : Nat → List (List Int)
 | 0 => [[]]
 | k + 1 => expTo (statesTo sizes k) (nth sizes k).toNat (statesTo sizes k).length
theorem statesTo_len {sizes : List Int} (h : SizesP sizes) : ∀ {k : Nat}, k ≤ sizes.length → ((statesTo sizes k).length : Int) = ranksTo sizes k
 | 0, _ => rfl
 | k + 1, hk => by
  have ih := statesTo_len h (k := k) (by omega)
  have hz := h k (by omega)
  simp only [statesTo, expTo_len, ranksTo]
  rw [Int.natCast_mul, ih, Int.toNat_of_nonneg (by omega)]
theorem expTo_get {l : List (List Int)} {c : Nat} {v : Nat} (hv : v < c) : ∀ {k i : Nat}, i < k → nth (expTo l c k) ((i * c + v : Nat) : Int) = nth l i ++ [(v : Int)]
 | 0, i, hi => by omega
 | k + 1, i, hi => by
  have hl := expTo_len (l := l) (c := c) (i := k)
  have hlt : i * c + v < (expTo l c (k + 1)).length := by
   rw [expTo_len]
   have : (i + 1) * c ≤ (k + 1) * c := Nat.mul_le_mul_right c (by omega)
   rw [Nat.succ_mul] at this
   omega
  by_cases hik : i = k
  ·subst hik
   rw [nth_eq hlt]
   simp only [expTo]
   rw [List.getElem_append_right (by omega)]
   simp only [hl, Nat.add_sub_cancel_left, expR, List.getElem_map, List.getElem_range]
  ·have h1 := expTo_get hv (l := l) (c := c) (k := k) (i := i) (by omega)
   have hlt' : i * c + v < (expTo l c k).length := by
    rw [hl]
    have : (i + 1) * c ≤ k * c := Nat.mul_le_mul_right c (by omega)
    rw [Nat.succ_mul] at this
    omega
   rw [← h1, nth_eq hlt, nth_eq hlt']
   simp only [expTo]
   rw [List.getElem_append_left hlt']
abbrev PreP (sizes s : List Int) (k : Nat) : Prop := s.length = k ∧ ∀ v : Nat, v < k → 0 ≤ nth s v ∧ nth s v < nth sizes v
theorem nth_app1 {s t : List Int} {v : Nat} (h : v < s.length) : nth (s ++ t) v = nth s v := by
 rw [nth_eq (by simp; omega), nth_eq h, List.getElem_append_left h]
theorem nth_app2 {s : List Int} {x : Int} : nth (s ++ [x]) (s.length : Int) = x := by
 rw [nth_eq (by simp)]; simp
theorem rankTo_app {sizes s : List Int} {x : Int} : ∀ {k : Nat}, k ≤ s.length → rankTo sizes (s ++ [x]) k = rankTo sizes s k
 | 0, _ => rfl
 | k + 1, hk => by
  simp only [rankTo]
  rw [rankTo_app (k := k) (by omega), nth_app1 (by omega)]
theorem statesTo_at {sizes : List Int} (h : SizesP sizes) : ∀ {k : Nat}, k ≤ sizes.length → ∀ n : Nat, n < (statesTo sizes k).length → PreP sizes (nth (statesTo sizes k) n) k ∧ rankTo sizes (nth (statesTo sizes k) n) k = n
 | 0, _, n, hn => by
  have : n = 0 := by simp [statesTo] at hn; omega
  subst this
  refine ⟨⟨rfl, fun v hv => by omega⟩, rfl⟩
 | k + 1, hk, n, hn => by
  have ih := statesTo_at h (k := k) (by omega)
  have hz := h k (by omega)
  obtain ⟨c, hc⟩ : ∃ c : Nat, c = (nth sizes k).toNat := ⟨_, rfl⟩
  have hc0 : 0 < c := by omega
  have hcz : (c : Int) = nth sizes k := by omega
  simp only [statesTo] at hn ⊢
  rw [← hc] at hn ⊢
  rw [expTo_len] at hn
  have hdm := Nat.div_add_mod n c
  have hm := Nat.mod_lt n hc0
  have hd : n / c < (statesTo sizes k).length := (Nat.div_lt_iff_lt_mul hc0).2 hn
  have e : n = n / c * c + n % c := by rw [Nat.mul_comm]; exact hdm.symm
  obtain ⟨⟨h1, h2⟩, h3⟩ := ih (n / c) hd
  have hg := expTo_get (l := statesTo sizes k) hm hd
  rw [← e] at hg
  rw [hg]
  refine ⟨⟨by rw [List.length_append, h1]; rfl, fun v hv => ?_⟩, ?_⟩
  ·by_cases hvk : v = k
   ·subst hvk
    have : nth (nth (statesTo sizes v) ↑(n / c) ++ [((n % c : Nat) : Int)]) (v : Int) = ((n % c : Nat) : Int) := by
     have := nth_app2 (s := nth (statesTo sizes v) ↑(n / c)) (x := ((n % c : Nat) : Int))
     rwa [h1] at this
    rw [this]
    omega
   ·rw [nth_app1 (by omega)]
    exact h2 v (by omega)
  ·simp only [rankTo]
   rw [rankTo_app (by omega), h3]
   have : nth (nth (statesTo sizes k) ↑(n / c) ++ [((n % c : Nat) : Int)]) (k : Int) = ((n % c : Nat) : Int) := by
    have := nth_app2 (s := nth (statesTo sizes k) ↑(n / c)) (x := ((n % c : Nat) : Int))
    rwa [h1] at this
   rw [this, ← hcz]
   have : ((n / c * c + n % c : Nat) : Int) = n := by rw [← e]
   simpa using this
def statesL (sizes : List Int) : List (List Int) := statesTo sizes sizes.length
theorem statesL_len {m : Multi} (hv : Valid m) : (statesL m.sizes).length = nR m := by
 have := statesTo_len hv.sizes (Nat.le_refl _)
 have h2 := nR_in hv
 unfold statesL ranks at *
 omega
theorem statesL_at {m : Multi} (hv : Valid m) {n : Nat} (hn : n < nR m) : nth (statesL m.sizes) n = unrank m.sizes n := by
 have hl := statesL_len hv
 obtain ⟨⟨h1, h2⟩, h3⟩ := statesTo_at hv.sizes (Nat.le_refl _) n (by show n < (statesL m.sizes).length; omega)
 have hs : StateP m.sizes (nth (statesL m.sizes) n) := ⟨h1, fun v hv => h2 v (by have h1' : (nth (statesL m.sizes) n).length = m.sizes.length := h1; omega)⟩
 have hr : rank m.sizes (nth (statesL m.sizes) n) = n := by
  unfold rank
  rw [show (nth (statesL m.sizes) n).length = m.sizes.length from h1]
  exact h3
 have := unrank_rank hv.sizes hs
 rw [hr] at this
 exact this.symm
def fillTo (m : Multi) (k : Nat) : List Int := (List.range (nR m)).map fun n => if n < k then (if holds (stAt m n) m.goal = true then 0 else 1000000000) else 0
theorem fillTo_len {m : Multi} {k : Nat} : (fillTo m k).length = nR m := by simp [fillTo]
theorem fillTo_0 {m : Multi} : fillTo m 0 = List.replicate (nR m) 0 := by
 refine List.ext_getElem (by simp [fillTo]) fun i h1 h2 => ?_
 simp [fillTo]
theorem fillTo_end {m : Multi} : fillTo m (nR m) = initC m (nR m) := by
 refine List.ext_getElem (by simp [fillTo, initC]) fun i h1 h2 => ?_
 have : i < nR m := by simpa [initC] using h2
 simp [fillTo, initC, this]
theorem fillTo_t {m : Multi} {k : Nat} (h : holds (stAt m k) m.goal = true) : fillTo m (k + 1) = fillTo m k := by
 refine List.ext_getElem (by simp [fillTo]) fun i h1 h2 => ?_
 simp only [fillTo, List.getElem_map, List.getElem_range]
 by_cases hi : i = k
 ·subst hi; simp [h]
 ·by_cases h3 : i < k
  ·rw [if_pos (by omega), if_pos h3]
  ·rw [if_neg (by omega), if_neg h3]
theorem fillTo_f {m : Multi} {k : Nat} (hk : k < nR m) (h : holds (stAt m k) m.goal = false) : fillTo m (k + 1) = setI (fillTo m k) k 1000000000 := by
 refine ext_get (by rw [setI_len, fillTo_len, fillTo_len]) fun i h1 => ?_
 rw [fillTo_len] at h1
 rw [nth_setI (by omega) (by rw [fillTo_len]; omega) (by omega), nth_eq (by rw [fillTo_len]; exact h1), nth_eq (by rw [fillTo_len]; exact h1)]
 simp only [fillTo, List.getElem_map, List.getElem_range]
 by_cases hi : i = k
 ·subst hi; simp [h]
 ·have hne : ¬ ((i : Int) = (k : Int)) := by omega
  simp only [if_neg hne]
  by_cases h3 : i < k
  ·simp only [if_pos h3, if_pos (show i < k + 1 by omega)]
  ·simp only [if_neg h3, if_neg (show ¬ i < k + 1 by omega)]
def bigF (m : Multi) (vars : List Int) (f : Int × Int) : Int × Int := if f = (0, 0) ∧ 2000 < prodTo m.sizes vars vars.length then (10, -7) else f
def stpF (m : Multi) (vars s : List Int) : Int × Int := if stateFault m s = (0, 0) then patFault m.sizes vars (-8) else stateFault m s
def valF (m : Multi) (vars s : List Int) : Int × Int := bigF m vars (stpF m vars s)
noncomputable def pval (m : Multi) (vars s : List Int) : Int := nth (costs (projM m vars)) (rank (projM m vars).sizes (sel s vars))
noncomputable def valR (m : Multi) (vars s : List Int) : Int := if valF m vars s = (0, 0) then pval m vars s else 0
theorem bigF_1 {m : Multi} {vars : List Int} {f : Int × Int} (h : f = (0, 0)) (hb : 2000 < prodTo m.sizes vars vars.length) : (10, -7) = bigF m vars f := by unfold bigF; rw [if_pos ⟨h, hb⟩]
theorem bigF_2 {m : Multi} {vars : List Int} {f : Int × Int} (h : ¬ (f = (0, 0) ∧ 2000 < prodTo m.sizes vars vars.length)) : f = bigF m vars f := by unfold bigF; rw [if_neg h]
theorem bigF_ok {m : Multi} {vars : List Int} {f : Int × Int} (h : bigF m vars f = (0, 0)) : f = (0, 0) ∧ prodTo m.sizes vars vars.length ≤ 2000 := by
 unfold bigF at h
 split at h
 ·cases h
 ·rename_i hn; exact ⟨h, Int.not_lt.1 fun hh => hn ⟨h, hh⟩⟩
theorem stpF_1 {m : Multi} {vars s : List Int} (h : stateFault m s = (0, 0)) : patFault m.sizes vars (-8) = stpF m vars s := by unfold stpF; rw [if_pos h]
theorem stpF_2 {m : Multi} {vars s : List Int} (h : stateFault m s ≠ (0, 0)) : stateFault m s = stpF m vars s := by unfold stpF; rw [if_neg h]
theorem patFault_ok2 {sizes vars : List Int} {i : Int} (h : (patFault sizes vars i).1 = 0) : vars.length ≠ 0 ∧ PatP sizes vars ∧ patFault sizes vars i = (0, 0) := by
 unfold patFault at h ⊢
 split at h
 ·rename_i hp
  rw [if_pos hp]
  obtain ⟨a, b⟩ := patCode_ok hp
  exact ⟨a, b, rfl⟩
 ·rename_i hp; exact absurd h hp
theorem stpF_ok {m : Multi} {vars s : List Int} (h : stpF m vars s = (0, 0)) : Valid m ∧ StateP m.sizes s ∧ vars.length ≠ 0 ∧ PatP m.sizes vars := by
 unfold stpF at h
 split at h
 ·rename_i hs
  obtain ⟨a, b⟩ := stateFault_ok hs
  obtain ⟨c, d, _⟩ := patFault_ok2 (by rw [h])
  exact ⟨a, b, c, d⟩
 ·rename_i hs; exact absurd h hs
theorem valF_ok {m : Multi} {vars s : List Int} (h : valF m vars s = (0, 0)) : Valid m ∧ StateP m.sizes s ∧ vars.length ≠ 0 ∧ PatP m.sizes vars ∧ prodTo m.sizes vars vars.length ≤ 2000 := by
 obtain ⟨a, b⟩ := bigF_ok h
 obtain ⟨c, d, e, f⟩ := stpF_ok a
 exact ⟨c, d, e, f, b⟩
theorem stpF_code {m : Multi} {vars s : List Int} (h : (stpF m vars s).1 = 0) : stpF m vars s = (0, 0) := by
 unfold stpF at h ⊢
 split at h
 ·rename_i hs
  rw [if_pos hs]; exact (patFault_ok2 h).2.2
 ·rename_i hs
  rw [if_neg hs]; exact stateFault_code h
theorem bigF_code {m : Multi} {vars : List Int} {f : Int × Int} (hf : f.1 = 0 → f = (0, 0)) (h : (bigF m vars f).1 = 0) : bigF m vars f = (0, 0) := by
 unfold bigF at h ⊢
 split at h
 ·cases h
 ·rename_i hn; rw [if_neg hn]; exact hf h
theorem valF_code {m : Multi} {vars s : List Int} (h : (valF m vars s).1 = 0) : valF m vars s = (0, 0) := bigF_code stpF_code h
theorem nR_proj {m : Multi} {vars : List Int} (hv : Valid m) (h0 : vars.length ≠ 0) (hp : PatP m.sizes vars) (hb : prodTo m.sizes vars vars.length ≤ 2000) : nR (projM m vars) ≤ 2000 := by
 have := nR_in (valid_proj hv h0 hp)
 have := prod_ranks (m := m) (vars := vars)
 omega
def opTo (m : Multi) (vars : List Int) (k : Nat) : List MOp := (List.range k).map fun (i : Nat) => ⟨restr (nth m.ops i).pre vars, restr (nth m.ops i).post vars, (nth m.ops i).cost⟩
theorem opTo_s {m : Multi} {vars : List Int} {k : Nat} : opTo m vars (k + 1) = opTo m vars k ++ [⟨restr (nth m.ops k).pre vars, restr (nth m.ops k).post vars, (nth m.ops k).cost⟩] := by simp [opTo, List.range_succ]
theorem opTo_len {m : Multi} {vars : List Int} {k : Nat} : (opTo m vars k).length = k := by simp [opTo]
theorem opTo_end {m : Multi} {vars : List Int} : opTo m vars m.ops.length = (projM m vars).ops := ext_get (by rw [opTo_len, projM_ops]) fun i hi => by
 rw [opTo_len] at hi
 rw [projM_op hi, nth_eq (by rw [opTo_len]; exact hi)]
 simp [opTo]
theorem valR_1 {m : Multi} {vars s : List Int} (h : valF m vars s ≠ (0, 0)) : valR m vars s = 0 := by unfold valR; rw [if_neg h]
theorem valR_0 {m : Multi} {vars s : List Int} (h : valF m vars s = (0, 0)) : valR m vars s = pval m vars s := by unfold valR; rw [if_pos h]
abbrev SetOk (n : Int) (l : List Int) (i : Nat) : Prop := 0 ≤ nth l i ∧ nth l i < n ∧ (0 < i → nth l (i - 1 : Int) < nth l i)
abbrev SetP (n : Int) (l : List Int) : Prop := ∀ i : Nat, i < l.length → SetOk n l i
end Go.Eng
namespace Go.Eng
open Go
theorem lamps_valid : Valid lampsM := valid_of (by decide +kernel)
end Go.Eng
end
