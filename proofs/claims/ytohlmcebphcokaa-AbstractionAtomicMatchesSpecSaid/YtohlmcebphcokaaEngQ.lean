/- Plain functions behind potential's laws: the faults of a list of weights, the best of them, the worked example. -/
import Derived.Test.YtohlmcebphcokaaEngP
set_option linter.unusedVariables false
set_option linter.unusedSimpArgs false
namespace Go.Eng
open Go

theorem validate_code {m : Multi} (h : (validate m).1 = 0) : validate m = (0, 0) := by
  unfold validate at h ⊢
  split
  · rename_i h1; rw [if_pos h1] at h; cases h
  rename_i h1; rw [if_neg h1] at h
  split
  · rename_i h2; rw [if_pos h2] at h; cases h
  rename_i h2; rw [if_neg h2] at h
  split
  · rename_i h3; rw [if_pos h3] at h; cases h
  rename_i h3; rw [if_neg h3] at h
  split
  · rename_i h4; rw [if_pos h4] at h; cases h
  rename_i h4; rw [if_neg h4] at h
  split
  · rename_i h5; rw [if_pos h5] at h; cases h
  rename_i h5; rw [if_neg h5] at h
  unfold opsFault at h ⊢
  split
  · rename_i i hi
    rw [hi] at h
    simp only at h
    unfold opFault at h ⊢
    split
    · rename_i h6; rw [if_pos h6] at h; cases h
    rename_i h6; rw [if_neg h6] at h
    split
    · rename_i h7; rw [if_pos h7] at h; cases h
    rfl
  · rfl
theorem stateFault_code {m : Multi} {s : List Int} (h : (stateFault m s).1 = 0) : stateFault m s = (0, 0) := by
  unfold stateFault at h ⊢
  split
  · rename_i h1; rw [if_pos h1] at h
    split
    · rfl
    · rename_i h2; rw [if_neg h2] at h; cases h
  · rename_i h1; rw [if_neg h1] at h; exact absurd (validate_code h) h1
theorem validate_sizes {m : Multi} (h : (validate m).1 = 0) : SizesP m.sizes := (valid_of (validate_code h)).sizes
theorem stateFault_sizes {m : Multi} {s : List Int} (h : (stateFault m s).1 = 0) : SizesP m.sizes := (stateFault_ok (stateFault_code h)).1.sizes

/-- The first fault of a list of weights, behind a fault. -/
def addTo (g : Int × Int) (sizes : List Int) (l : List (List (List Int))) : Nat → Int × Int
  | 0 => g
  | k + 1 => addW (addTo g sizes l k) sizes (nth l k) k
theorem addW_ne {f : Int × Int} {sizes : List Int} {w : List (List Int)} {i : Int} (h : f.1 ≠ 0) : addW f sizes w i = f := by unfold addW; rw [if_neg (fun e => h e.1)]
theorem addTo_le {g : Int × Int} {sizes : List Int} {l : List (List (List Int))} {k : Nat} (h : (addTo g sizes l k).1 ≠ 0) : ∀ n, addTo g sizes l (k + n) = addTo g sizes l k
  | 0 => rfl
  | n + 1 => by
    have ih := addTo_le h n
    show addW (addTo g sizes l (k + n)) sizes (nth l ((k + n : Nat) : Int)) _ = _
    rw [ih]; exact addW_ne h
theorem addTo_end {g : Int × Int} {sizes : List Int} {l : List (List (List Int))} {k n : Nat} (hk : k ≤ n) (h : (addTo g sizes l k).1 ≠ 0) : addTo g sizes l k = addTo g sizes l n := by
  obtain ⟨d, rfl⟩ := Nat.exists_eq_add_of_le hk
  exact (addTo_le h d).symm
theorem addTo_g {g : Int × Int} {sizes : List Int} {l : List (List (List Int))} (h : g.1 ≠ 0) (n : Nat) : addTo g sizes l n = g := (addTo_end (k := 0) (Nat.zero_le n) h).symm
theorem addTo_wok {sizes : List Int} {l : List (List (List Int))} {g : Int × Int} : ∀ {n : Nat}, (addTo g sizes l n).1 = 0 → g.1 = 0 ∧ addTo g sizes l n = g ∧ ∀ k : Nat, k < n → wcode sizes (nth l k) = 0
  | 0, h => ⟨h, rfl, fun k hk => absurd hk (Nat.not_lt_zero _)⟩
  | n + 1, h => by
    by_cases h0 : (addTo g sizes l n).1 = 0
    · obtain ⟨i1, i2, i3⟩ := addTo_wok h0
      simp only [addTo] at h ⊢
      unfold addW at h ⊢
      split at h
      · rename_i hh; exact absurd h hh.2
      · rename_i hh
        rw [if_neg hh]
        refine ⟨i1, i2, fun k hk => ?_⟩
        rcases Nat.lt_or_ge k n with hkn | hkn
        · exact i3 k hkn
        · have : k = n := by omega
          subst this
          exact Decidable.byContradiction fun hc => hh ⟨h0, hc⟩
    · exact absurd (addTo_le h0 1 ▸ h) h0
theorem wok_of {sizes : List Int} {w : List (List Int)} (h : wcode sizes w = 0) : WOk sizes w := by obtain ⟨a, b, c⟩ := wcode_ok h; exact ⟨a, b, c⟩
theorem addTo_step0 {sizes : List Int} {l : List (List (List Int))} {g : Int × Int} {k : Nat} (h : addTo g sizes l k = (0, 0)) (hw : (wfault sizes (nth l k) (-8)).1 = 0) : addTo g sizes l (k + 1) = (0, 0) := by
  simp only [addTo, h]
  unfold addW
  rw [if_neg]
  rintro ⟨_, h2⟩
  unfold wfault at hw
  rw [if_neg h2] at hw
  exact h2 hw
theorem addTo_step1 {sizes : List Int} {l : List (List (List Int))} {g : Int × Int} {k n : Nat} (hk : k < n) (h : addTo g sizes l k = (0, 0)) (hw : (wfault sizes (nth l k) (-8)).1 ≠ 0) : ((wfault sizes (nth l k) (-8)).1, (k : Int)) = addTo g sizes l n := by
  have hc : wcode sizes (nth l k) ≠ 0 := fun e => hw (by unfold wfault; rw [if_pos e])
  have he : addTo g sizes l (k + 1) = (wcode sizes (nth l k), (k : Int)) := by
    simp only [addTo, h]
    unfold addW
    rw [if_pos ⟨rfl, hc⟩]
  rw [← addTo_end (k := k + 1) (by omega) (by rw [he]; exact hc), he]
  unfold wfault
  rw [if_neg hc]
theorem wfault_ne {sizes : List Int} {w : List (List Int)} {i : Int} (h : ¬ ((wfault sizes w i).1 = 0 ∧ (wfault sizes w i).2 = 0)) : (wfault sizes w i).1 ≠ 0 := by
  unfold wfault at h ⊢
  split
  · rename_i h0; rw [if_pos h0] at h; exact absurd ⟨rfl, rfl⟩ h
  · assumption
def baseF (m : Multi) (l : List (List (List Int))) (s : List Int) : Int × Int :=
  if (stateFault m s).1 = 0 ∧ ¬ (1 ≤ l.length ∧ l.length ≤ 6) then (9, -9) else stateFault m s
theorem baseF_1 {m : Multi} {l : List (List (List Int))} {s : List Int} (h : (stateFault m s).1 = 0 ∧ ¬ (1 ≤ l.length ∧ l.length ≤ 6)) : (9, -9) = baseF m l s := by unfold baseF; rw [if_pos h]
theorem baseF_2 {m : Multi} {l : List (List (List Int))} {s : List Int} (h : ¬ ((stateFault m s).1 = 0 ∧ ¬ (1 ≤ l.length ∧ l.length ≤ 6))) : stateFault m s = baseF m l s := by unfold baseF; rw [if_neg h]
theorem baseF_sizes {m : Multi} {l : List (List (List Int))} {s : List Int} (h : (baseF m l s).1 = 0) : (Valid m ∧ StateP m.sizes s) ∧ 1 ≤ l.length ∧ l.length ≤ 6 := by
  unfold baseF at h
  split at h
  · cases h
  · rename_i hh
    exact ⟨stateFault_ok (stateFault_code h), Decidable.byContradiction fun hc => hh ⟨h, hc⟩⟩
def bestF (m : Multi) (l : List (List (List Int))) (s : List Int) : Int × Int := addTo (baseF m l s) m.sizes l l.length
/-- The first of the greatest. -/
def bestTo (f : Nat → Int) : Nat → Nat
  | 0 => 0
  | k + 1 => if f (bestTo f k) < f k then k else bestTo f k
theorem bestTo_lt {f : Nat → Int} : ∀ {n : Nat}, 0 < n → bestTo f n < n
  | n + 1, _ => by
    simp only [bestTo]
    split
    · omega
    · rcases Nat.eq_zero_or_pos n with h | h
      · subst h; simp [bestTo]
      · have := bestTo_lt (f := f) h; omega
theorem bestTo_le {f : Nat → Int} : ∀ {n : Nat}, bestTo f n ≤ n
  | 0 => Nat.le_refl _
  | n + 1 => Nat.le_of_lt (bestTo_lt (by omega))
theorem bestTo_t {f : Nat → Int} {k : Nat} (h : f (bestTo f k) < f k) : k = bestTo f (k + 1) := by simp only [bestTo]; rw [if_pos h]
theorem bestTo_f {f : Nat → Int} {k : Nat} (h : ¬ f (bestTo f k) < f k) : bestTo f k = bestTo f (k + 1) := by simp only [bestTo]; rw [if_neg h]
abbrev valL (l : List (List (List Int))) (s : List Int) (i : Nat) : Int := val (nth l i) s
def bestI (l : List (List (List Int))) (s : List Int) : Nat := bestTo (valL l s) l.length
def bestRes (m : Multi) (l : List (List (List Int))) (s : List Int) : Int × Int × (Int × Int) :=
  if bestF m l s = (0, 0) then ((bestI l s : Int), val (nth l (bestI l s)) s, (0, 0)) else (0, 0, bestF m l s)
theorem bestRes_1 {m : Multi} {l : List (List (List Int))} {s : List Int} (h : (bestF m l s).1 ≠ 0) : bestRes m l s = (0, 0, bestF m l s) := by
  unfold bestRes; rw [if_neg (fun e => h (by rw [e]))]
theorem bestRes_2 {m : Multi} {l : List (List (List Int))} {s : List Int} (h : bestF m l s = (0, 0)) : bestRes m l s = ((bestI l s : Int), val (nth l (bestI l s)) s, (0, 0)) := by
  unfold bestRes; rw [if_pos h]
theorem val_in {sizes : List Int} {w : List (List Int)} (hw : WOk sizes w) {s : List Int} (hs : StateP sizes s) (hz : sizes.length ≤ 8) : -8000000 ≤ val w s ∧ val w s ≤ 8000000 := by
  have := valTo_in hw hs s.length (Nat.le_refl _)
  have := hs.1
  unfold val
  omega
theorem addW_then (m : Multi) (s : List Int) (w : List (List Int)) (i : Int) : addW (stateFault m s) m.sizes w i = thenF (stateFault m s) (wfault m.sizes w i) := by
  unfold addW thenF
  by_cases h : (stateFault m s).1 = 0
  · have e := stateFault_code h
    rw [if_pos e]
    unfold wfault
    by_cases hw : wcode m.sizes w = 0
    · rw [if_neg (fun hh => hh.2 hw), if_pos hw, e]
    · rw [if_pos ⟨h, hw⟩, if_neg hw]
  · rw [if_neg (fun hh => h hh.1), if_neg (fun e => h (by rw [e]))]
theorem valFault_addW (m : Multi) (s : List Int) (w : List (List Int)) : addW (stateFault m s) m.sizes w (-8) = valFault m w s := addW_then ..
theorem valFault_code {m : Multi} {s : List Int} {w : List (List Int)} (h : (valFault m w s).1 = 0) : valFault m w s = (0, 0) := by
  rw [← valFault_addW] at h ⊢
  unfold addW at h ⊢
  split
  · rename_i hh; rw [if_pos hh] at h; exact absurd h hh.2
  · rename_i hh; rw [if_neg hh] at h; exact stateFault_code h
theorem bestF_base {m : Multi} {l : List (List (List Int))} {s : List Int} (h : (baseF m l s).1 ≠ 0) : baseF m l s = bestF m l s := (addTo_g h _).symm
theorem bestF_code {m : Multi} {l : List (List (List Int))} {s : List Int} (h : (bestF m l s).1 = 0) : bestF m l s = (0, 0) := by
  obtain ⟨i1, i2, _⟩ := addTo_wok h
  unfold bestF
  rw [i2]
  unfold baseF at i1 ⊢
  split
  · rename_i hh; rw [if_pos hh] at i1; cases i1
  · rename_i hh; rw [if_neg hh] at i1; exact stateFault_code i1
theorem bestF_ok {m : Multi} {l : List (List (List Int))} {s : List Int} (h : (bestF m l s).1 = 0) : Valid m ∧ StateP m.sizes s ∧ (1 ≤ l.length ∧ l.length ≤ 6) ∧ ∀ k : Nat, k < l.length → WOk m.sizes (nth l k) := by
  obtain ⟨i1, i2, i3⟩ := addTo_wok h
  obtain ⟨⟨a, b⟩, c⟩ := baseF_sizes i1
  exact ⟨a, b, c, fun k hk => wok_of (i3 k hk)⟩
theorem ext_nth {α : Type} [Inhabited α] {a b : List α} (hl : a.length = b.length) (h : ∀ i : Nat, i < a.length → nth a i = nth b i) : a = b := by
  apply List.ext_getElem hl
  intro i h1 h2
  have := h i h1
  rwa [nth_eq h1, nth_eq h2] at this
def lampsM : Multi := ⟨[2, 2], [0, 0], [(0, 1), (1, 1)], [⟨[], [(0, 1)], 2⟩, ⟨[], [(1, 1)], 3⟩]⟩
def exW : List (List Int) := [[2, 0], [3, 0]]
theorem lamps_val : valFault lampsM exW [0, 1] = (0, 0) := by decide +kernel
theorem lamps_valRes : valRes lampsM exW [0, 1] = 2 := by decide +kernel
theorem lamps_slack : slackRes lampsM exW = ([0, 0], 0, (0, 0)) := by decide +kernel
theorem lamps_adm : adm lampsM exW = true := by decide +kernel
/-- The slot holds what is less said. -/
theorem TrOps.weak {P : Program} {N : Nat} {w0 : World} {O0 : Nat → Nat} {ops : Array Oper} {Q : Post} {e : Env} {M : Mem} {rest : List Oper} {s s' : S} (n : Nat) (hn : look e n = some s) (hl : Le s s') (h : TrOps P N w0 O0 ops Q ((n, s') :: e) M rest) : TrOps P N w0 O0 ops Q e M rest := by
  intro O H a w hst
  refine h O H a w ⟨hst.df, hst.sz, hst.bl, hst.lab, fun k t hk => ?_, hst.mem⟩
  rcases look_cons hk with ⟨rfl, rfl⟩ | ⟨_, hk⟩
  · obtain ⟨x, hx, hr⟩ := hst.slots _ _ hn
    exact ⟨x, hx, hl _ _ _ _ hr⟩
  · exact hst.slots k t hk
theorem Tr.weak {P : Program} {N : Nat} {w0 : World} {O0 : Nat → Nat} {Q : Post} {e : Env} {M : Mem} {c : Code} {s s' : S} (n : Nat) (hn : look e n = some s) (hl : Le s s') (h : Tr P N w0 O0 ((n, s') :: e) M c Q) : Tr P N w0 O0 e M c Q := by
  intro O H a w hst
  refine h O H a w ⟨hst.df, hst.sz, hst.bl, hst.lab, fun k t hk => ?_, hst.mem⟩
  rcases look_cons hk with ⟨rfl, rfl⟩ | ⟨_, hk⟩
  · obtain ⟨x, hx, hr⟩ := hst.slots _ _ hn
    exact ⟨x, hx, hl _ _ _ _ hr⟩
  · exact hst.slots k t hk
end Go.Eng
