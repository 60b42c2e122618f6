/- The engine and the walks that this claim uses, part 8. Written by prune.py out of our own texts. -/
import Derived.Test.YthgcnfolgbaemaaB7
import Derived.ProofKit
import Derived.OpenShut
import Derived.ChangeOld
import Derived.Below
import Derived.Deep.Slices
section
/- The frame: what an argument that reads is, as data; and how a proved contract becomes the row's step. -/







set_option linter.unusedVariables false
set_option linter.unusedSimpArgs false
namespace Go.Eng
open Go Go.RowKit

/-- A row of cells holds these data. -/
def CellsD (W : World) (cs : List Value) (ds : List D) : Prop := cs.length = ds.length ∧ ∀ (i : Nat) (x : Value) (d : D), cs[i]? = some x → ds[i]? = some d → RepD zO W x d
theorem CellsD.app {W : World} {a b : List Value} {c d : List D} (h : CellsD W a c) (k : CellsD W b d) : CellsD W (a ++ b) (c ++ d) := by
  refine ⟨by simp [h.1, k.1], fun i x y hx hy => ?_⟩
  by_cases hi : i < a.length
  · rw [List.getElem?_append_left hi] at hx
    rw [List.getElem?_append_left (by rw [← h.1]; exact hi)] at hy
    exact h.2 i x y hx hy
  · rw [List.getElem?_append_right (by omega)] at hx
    rw [List.getElem?_append_right (by rw [← h.1]; omega), ← h.1] at hy
    exact k.2 _ x y hx hy

/-- Whatever reads at the type is data of this form. -/
abbrev in64 (n : Int) : Prop := -9223372036854775808 ≤ n ∧ n ≤ 9223372036854775807
def Dec (P : Program) (t : TypeId) {β : Type} (k : Nat) (f : β → List D) (R : β → Prop) : Prop :=
  P.cellsOf t = k ∧ (∀ b, (f b).length = k) ∧
    ∀ (H : Type) (enc : TypeId × Value → H) (W : World) (fuel : Nat) (cs : List Value) (x : DataW H × List MemPlace), DataW.trod enc P W 0 (fun _ => true) true fuel t cs = some x → ∃ b, R b ∧ CellsD W cs (f b)
theorem Dec.map {P : Program} {t : TypeId} {β γ : Type} {k : Nat} {f : β → List D} {f' : γ → List D} {R : β → Prop} {R' : γ → Prop} (h : Dec P t k f R) (g : β → γ) (g' : γ → β) (hg : ∀ b, f' (g b) = f b) (hg' : ∀ c, f' c = f (g' c)) (hR : ∀ b, R b → R' (g b)) : Dec P t k f' R' :=
  ⟨h.1, fun c => by rw [hg', h.2.1], fun H enc W fuel cs x hx => let ⟨b, hr, hb⟩ := h.2.2 H enc W fuel cs x hx; ⟨g b, hR b hr, by rw [hg]; exact hb⟩⟩
theorem Dec.int {P : Program} {t : TypeId} (ht : P.underlying t = some (.int .i64)) (hc : P.cellsOf t = 1) : Dec P t 1 (fun n : Int => [D.v (.int .i64 n)]) in64 :=
  ⟨hc, fun _ => rfl, fun H enc W fuel cs x hx => by
    obtain ⟨n, rfl, _, hw⟩ := DataW.trod_int ht hx
    refine ⟨n, ?_, rfl, fun i x d hx hd => ?_⟩
    · simp only [Lit.wf, Bool.and_eq_true, decide_eq_true_eq] at hw
      have h1 := hw.1
      have h2 := hw.2
      have e1 : IntKind.i64.min = -9223372036854775808 := by decide
      have e2 : IntKind.i64.max = 9223372036854775807 := by decide
      unfold in64
      omega
    · cases i with
      | zero => simp at hx hd; subst hx; subst hd; exact .v _
      | succ i => simp at hx⟩
theorem Dec.bool {P : Program} {t : TypeId} (ht : P.underlying t = some .bool) (hc : P.cellsOf t = 1) : Dec P t 1 (fun n : Bool => [D.v (.bool n)]) (fun _ => True) :=
  ⟨hc, fun _ => rfl, fun H enc W fuel cs x hx => by
    have key : ∃ b, cs = [.bool b] := by
      cases fuel with
      | zero => simp [DataW.trod] at hx
      | succ m =>
        unfold DataW.trod at hx
        rw [ht] at hx
        split at hx <;> simp_all
    obtain ⟨b, rfl⟩ := key
    refine ⟨b, trivial, rfl, fun i x d hx hd => ?_⟩
    cases i with
    | zero => simp at hx hd; subst hx; subst hd; exact .v _
    | succ i => simp at hx⟩
theorem choose_list {β : Type} {p : Nat → β → Prop} : ∀ (n : Nat), (∀ i, i < n → ∃ b, p i b) → ∃ l : List β, l.length = n ∧ ∀ i b, l[i]? = some b → p i b
  | 0, _ => ⟨[], rfl, fun i b h => by simp at h⟩
  | n + 1, h => by
    obtain ⟨l, h1, h2⟩ := choose_list n fun i hi => h i (by omega)
    obtain ⟨b, hb⟩ := h n (by omega)
    refine ⟨l ++ [b], by simp [h1], fun i c hc => ?_⟩
    by_cases hi : i < n
    · rw [List.getElem?_append_left (by omega)] at hc; exact h2 i c hc
    · rw [List.getElem?_append_right (by omega)] at hc
      cases hz : i - l.length with
      | zero =>
        rw [hz] at hc; simp at hc; subst hc
        have : i = n := by omega
        rw [this]; exact hb
      | succ j => rw [hz] at hc; simp at hc
theorem Dec.slice {P : Program} {t e : TypeId} {β : Type} {k : Nat} {f : β → List D} {R : β → Prop} (ht : P.underlying t = some (.slice e)) (hc : P.cellsOf t = 1) (he : Dec P e k f R) (hk0 : 0 < k) : Dec P t 1 (fun l : List β => [D.s k (l.map f)]) (fun l => ∀ b, b ∈ l → R b) := by
  refine ⟨hc, fun _ => rfl, fun H enc W fuel cs x hx => ?_⟩
  have one : ∀ (v : Value) (d : D), RepD zO W v d → CellsD W [v] [d] := fun v d h => ⟨rfl, fun i x d' hx hd => by
    cases i with
    | zero => simp at hx hd; subst hx; subst hd; exact h
    | succ i => simp at hx⟩
  rcases Go.Deep.open_slice ht hx with ⟨rfl, _⟩ | ⟨a, len, cap, m, n, Dx, Pl, rfl, _, hl, hm, hmm, _, hel⟩
  · exact ⟨[], fun b hb => by simp at hb, one _ _ (.e none 0 k (by simp [maxLen]))⟩
  · have hmc : len ≤ m := by rw [hmm]; split <;> omega
    obtain ⟨l, hll, hlp⟩ := choose_list (β := β) (p := fun i b => R b ∧ ∃ cs', W.cells? 0 (a.add (i * P.cellsOf e)) (P.cellsOf e) = some cs' ∧ CellsD W cs' (f b)) len (fun i hi => by
      obtain ⟨cs', h1, h2⟩ := hel i (by omega)
      obtain ⟨b, hr, hb⟩ := he.2.2 H enc W n cs' _ h2
      exact ⟨b, hr, cs', h1, hb⟩)
    refine ⟨l, fun b hb => by obtain ⟨i, hi⟩ := List.getElem?_of_mem hb; exact (hlp i b hi).1, one _ _ ?_⟩
    have hlp := fun i b h => (hlp i b h).2
    cases l with
    | nil =>
      simp at hll
      subst hll
      exact .e _ cap k hm
    | cons b0 l0 =>
      generalize hL : b0 :: l0 = l at hll hlp
      obtain ⟨ab, ao, asp⟩ := a
      have hsp : asp = none := by
        obtain ⟨cs', h1, h2⟩ := hlp 0 b0 (by rw [← hL]; rfl)
        obtain ⟨_, g1, g2⟩ := World.cells?_some h1
        have hj : 0 < cs'.length := by rw [g1, he.1]; exact hk0
        have := g2 0 (by rw [he.1]; exact hk0)
        rw [List.getElem?_eq_getElem hj, Nat.zero_mul] at this
        exact World.cell?_spot (by simpa [Addr.add] using this)
      subst hsp
      have hadd : ∀ p q : Nat, ((⟨ab, ao, none⟩ : Addr).add p).add q = ⟨ab, ao + (p + q), none⟩ := by
        intro p q
        unfold Addr.add
        split <;> split <;> simp <;> omega
      have hcell : ∀ (i : Nat) (b : β), l[i]? = some b → ∀ (j : Nat) (d : D), (f b)[j]? = some d → ∃ x, W.cell? ⟨ab, ao + (i * k + j), none⟩ = some x ∧ RepD zO W x d := by
        intro i b hb j d hd
        obtain ⟨cs', h1, h2⟩ := hlp i b hb
        obtain ⟨_, g1, g2⟩ := World.cells?_some h1
        have hj : j < P.cellsOf e := by rw [he.1, ← he.2.1 b]; exact (List.getElem?_eq_some_iff.1 hd).1
        have hj' : j < cs'.length := by omega
        have := g2 j hj
        rw [List.getElem?_eq_getElem hj', hadd, he.1] at this
        exact ⟨cs'[j], this, h2.2 j _ d (List.getElem?_eq_getElem hj') hd⟩
      have hrow : ∀ (i : Nat) (r : List D), (l.map f)[i]? = some r → ∃ b, l[i]? = some b ∧ r = f b := by
        intro i r hr
        simp only [List.getElem?_map, Option.map_eq_some_iff] at hr
        obtain ⟨b, h1, h2⟩ := hr
        exact ⟨b, h1, h2.symm⟩
      have hlen : len = (l.map f).length := by simp [hll]
      rw [hlen]
      refine .s ab ao cap k (l.map f) (fun q => (W.cell? ⟨ab, ao + q, none⟩).getD undef) (by omega) hm (fun r hr => ?_) (fun _ _ _ _ _ _ => rfl) (fun i r j d hi hj => ?_) (fun i r j d hi hj => ?_)
      · obtain ⟨b, _, rfl⟩ := List.mem_map.1 hr; exact he.2.1 b
      · obtain ⟨b, hb, rfl⟩ := hrow i r hi
        obtain ⟨x, hx, _⟩ := hcell i b hb j d hj
        rw [hx]; rfl
      · obtain ⟨b, hb, rfl⟩ := hrow i r hi
        obtain ⟨x, hx, hr⟩ := hcell i b hb j d hj
        simp only [hx, Option.getD_some]; exact hr

/-! ### Structs -/
theorem drop_take_app {α : Type} (l : List α) (a b : Nat) : (l.drop 0).take (a + b) = (l.drop 0).take a ++ (l.drop a).take b := by
  simp [List.take_add]
theorem Dec.struct3 {P : Program} {t : TypeId} {f0 f1 f2 : Field} {β0 β1 β2 : Type} {k0 k1 k2 : Nat} {e0 : β0 → List D} {e1 : β1 → List D} {e2 : β2 → List D} {R0 : β0 → Prop} {R1 : β1 → Prop} {R2 : β2 → Prop} (ht : P.underlying t = some (.struct #[f0, f1, f2])) (hc : P.cellsOf t = k0 + k1 + k2)
    (o0 : f0.offset = 0) (o1 : f1.offset = k0) (o2 : f2.offset = k0 + k1) (h0 : Dec P f0.type k0 e0 R0) (h1 : Dec P f1.type k1 e1 R1) (h2 : Dec P f2.type k2 e2 R2) : Dec P t (k0 + k1 + k2) (fun b : β0 × β1 × β2 => e0 b.1 ++ e1 b.2.1 ++ e2 b.2.2) (fun b => R0 b.1 ∧ R1 b.2.1 ∧ R2 b.2.2) := by
  refine ⟨hc, fun b => by simp [h0.2.1, h1.2.1, h2.2.1]; omega, fun H enc W fuel cs x hx => ?_⟩
  obtain ⟨xs, n, _, _, hl, hn, hf⟩ := DataW.trod_struct ht hx
  have g0 := hf 0 f0 rfl
  have g1 := hf 1 f1 rfl
  have g2 := hf 2 f2 rfl
  rw [o0, h0.1, List.getElem?_eq_getElem (by rw [hn]; simp)] at g0
  rw [o1, h1.1, List.getElem?_eq_getElem (by rw [hn]; simp)] at g1
  rw [o2, h2.1, List.getElem?_eq_getElem (by rw [hn]; simp)] at g2
  obtain ⟨b0, r0, c0⟩ := h0.2.2 H enc W n _ _ g0
  obtain ⟨b1, r1, c1⟩ := h1.2.2 H enc W n _ _ g1
  obtain ⟨b2, r2, c2⟩ := h2.2.2 H enc W n _ _ g2
  refine ⟨(b0, b1, b2), ⟨r0, r1, r2⟩, ?_⟩
  have := (c0.app c1).app c2
  rwa [← drop_take_app, ← drop_take_app, List.drop_zero, List.take_of_length_le (by omega)] at this
theorem Dec.struct5 {P : Program} {t : TypeId} {f0 f1 f2 f3 f4 : Field} {β0 β1 β2 β3 β4 : Type} {k0 k1 k2 k3 k4 : Nat} {e0 : β0 → List D} {e1 : β1 → List D} {e2 : β2 → List D} {e3 : β3 → List D} {e4 : β4 → List D} {R0 : β0 → Prop} {R1 : β1 → Prop} {R2 : β2 → Prop} {R3 : β3 → Prop} {R4 : β4 → Prop} (ht : P.underlying t = some (.struct #[f0, f1, f2, f3, f4])) (hc : P.cellsOf t = k0 + k1 + k2 + k3 + k4)
    (o0 : f0.offset = 0) (o1 : f1.offset = k0) (o2 : f2.offset = k0 + k1) (o3 : f3.offset = k0 + k1 + k2) (o4 : f4.offset = k0 + k1 + k2 + k3) (h0 : Dec P f0.type k0 e0 R0) (h1 : Dec P f1.type k1 e1 R1) (h2 : Dec P f2.type k2 e2 R2) (h3 : Dec P f3.type k3 e3 R3) (h4 : Dec P f4.type k4 e4 R4) :
    Dec P t (k0 + k1 + k2 + k3 + k4) (fun b : β0 × β1 × β2 × β3 × β4 => e0 b.1 ++ e1 b.2.1 ++ e2 b.2.2.1 ++ e3 b.2.2.2.1 ++ e4 b.2.2.2.2) (fun b => R0 b.1 ∧ R1 b.2.1 ∧ R2 b.2.2.1 ∧ R3 b.2.2.2.1 ∧ R4 b.2.2.2.2) := by
  refine ⟨hc, fun b => by simp [h0.2.1, h1.2.1, h2.2.1, h3.2.1, h4.2.1]; omega, fun H enc W fuel cs x hx => ?_⟩
  obtain ⟨xs, n, _, _, hl, hn, hf⟩ := DataW.trod_struct ht hx
  have g0 := hf 0 f0 rfl
  have g1 := hf 1 f1 rfl
  have g2 := hf 2 f2 rfl
  have g3 := hf 3 f3 rfl
  have g4 := hf 4 f4 rfl
  rw [o0, h0.1, List.getElem?_eq_getElem (by rw [hn]; simp)] at g0
  rw [o1, h1.1, List.getElem?_eq_getElem (by rw [hn]; simp)] at g1
  rw [o2, h2.1, List.getElem?_eq_getElem (by rw [hn]; simp)] at g2
  rw [o3, h3.1, List.getElem?_eq_getElem (by rw [hn]; simp)] at g3
  rw [o4, h4.1, List.getElem?_eq_getElem (by rw [hn]; simp)] at g4
  obtain ⟨b0, r0, c0⟩ := h0.2.2 H enc W n _ _ g0
  obtain ⟨b1, r1, c1⟩ := h1.2.2 H enc W n _ _ g1
  obtain ⟨b2, r2, c2⟩ := h2.2.2 H enc W n _ _ g2
  obtain ⟨b3, r3, c3⟩ := h3.2.2 H enc W n _ _ g3
  obtain ⟨b4, r4, c4⟩ := h4.2.2 H enc W n _ _ g4
  refine ⟨(b0, b1, b2, b3, b4), ⟨r0, r1, r2, r3, r4⟩, ?_⟩
  have := (((c0.app c1).app c2).app c3).app c4
  rwa [← drop_take_app, ← drop_take_app, ← drop_take_app, ← drop_take_app, List.drop_zero, List.take_of_length_le (by omega)] at this

/-! ### Arguments -/
/-- One cell. -/
theorem Dec.arg {P : Program} {t : TypeId} {β : Type} {f : β → D} {R : β → Prop} (h : Dec P t 1 (fun b => [f b]) R) {H : Type} {enc : TypeId × Value → H} {W : World} {v : Value} {d : DataW H} {ps : List MemPlace} (hv : v.cells.toList = [v]) (hx : DataW.Trod enc P W 0 (fun _ => true) true t v d ps) : ∃ b, R b ∧ RepS zO zH W v (.d (f b)) := by
  obtain ⟨fuel, hf⟩ := hx
  obtain ⟨b, hr, hb⟩ := h.2.2 H enc W fuel _ _ hf
  rw [hv] at hb
  exact ⟨b, hr, .d _ _ (hb.2 0 v _ rfl rfl)⟩
/-- A struct. -/
theorem Dec.argG {P : Program} {t : TypeId} {β : Type} {k : Nat} {f : β → List D} {R : β → Prop} (h : Dec P t k f R) (h1 : ∀ b, (f b).all D.one = true) {H : Type} {enc : TypeId × Value → H} {W : World} {cs : Array Value} {d : DataW H} {ps : List MemPlace} (hx : DataW.Trod enc P W 0 (fun _ => true) true t (.agg cs) d ps) :
    ∃ b, R b ∧ RepS zO zH W (.agg cs) (.g ((f b).map .d)) := by
  obtain ⟨fuel, hf⟩ := hx
  obtain ⟨b, hr, hb⟩ := h.2.2 H enc W fuel _ _ hf
  simp only [Value.cells] at hb
  refine ⟨b, hr, ?_⟩
  have := RepS.g (O := zO) (H := zH) (w := W) cs.toList ((f b).map .d) (by simp [hb.1]) (fun x hx => ?_) (fun i x s hx hs => ?_)
  · simpa using this
  · obtain ⟨i, hi⟩ := List.getElem?_of_mem hx
    have hlt : i < (f b).length := by rw [← hb.1]; exact (List.getElem?_eq_some_iff.1 hi).1
    exact (hb.2 i x _ hi (List.getElem?_eq_getElem hlt)).one' (List.all_eq_true.1 (h1 b) _ (List.getElem_mem hlt))
  · simp only [List.getElem?_map, Option.map_eq_some_iff] at hs
    obtain ⟨y, hy, rfl⟩ := hs
    exact .d _ _ (hb.2 i x y hx hy)
theorem reps_nil {O : Nat → Nat} {H : Nat → Value} {w : World} : ∀ (i : Nat) (x : Value) (s : S), ([] : List Value)[i]? = some x → ([] : List S)[i]? = some s → RepS O H w x s := fun i x s h => by simp at h
theorem reps_cons {O : Nat → Nat} {H : Nat → Value} {w : World} {v : Value} {t : S} {vs : List Value} {ts : List S} (h : RepS O H w v t) (k : ∀ (i : Nat) (x : Value) (s : S), vs[i]? = some x → ts[i]? = some s → RepS O H w x s) :
    ∀ (i : Nat) (x : Value) (s : S), (v :: vs)[i]? = some x → (t :: ts)[i]? = some s → RepS O H w x s := fun i x s hx hs => by
  cases i with
  | zero => simp at hx hs; subst hx; subst hs; exact h
  | succ i => exact k i x s (by simpa using hx) (by simpa using hs)
theorem RepS.isB {O : Nat → Nat} {H : Nat → Value} {w : World} {x : Value} {b : Bool} (h : RepS O H w x (Bo b)) : x = .bool b := by
  cases h with
  | d _ _ q => cases q with
    | v _ => rfl
end Go.Eng
end
