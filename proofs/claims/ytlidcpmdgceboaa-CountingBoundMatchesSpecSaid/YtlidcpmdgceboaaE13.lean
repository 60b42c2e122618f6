/- The engine and the walks that this claim uses, part 13. Written by prune.py out of our own texts. -/
import Derived.Test.YtlidcpmdgceboaaE12
import Derived.ProofKit
import Derived.OpenShut
import Derived.ChangeOld
import Derived.Below
import Derived.Deep.Slices
set_option linter.unusedSimpArgs false
set_option linter.unnecessarySimpa false
set_option linter.unusedVariables false
set_option linter.unusedSectionVars false
section
/- Walks, written by gen.py out of hints. -/


namespace Go.Proofs.Ytlidcpmdgceboaa
open Go.Eng
set_option maxRecDepth 10000
set_option maxHeartbeats 1000000

theorem law_CountingBoundMatchesSpec_does (t : Tsk) : Does Try.prog false 5 [tskS t] (Bo true) := by
 obtain ⟨o, hS, hB⟩ := cp_good2 t
 refine Does.of_body Try.func5 rfl rfl (by simp) Try.call5 (fun w0 O0 => ?_); refine .lenG (n := 0) (i := 1) rfl rfl (fun len0_1 => ?_); refine .lenG (n := 0) (i := 2) rfl rfl (fun len0_2 => ?_); refine .lenG (n := 0) (i := 3) rfl rfl (fun len0_3 => ?_); refine .seq ?_; refine .region ?_; refine .semM (OpSem.box 1 rfl rfl rfl rfl) rfl rfl (by decide) ?_; refine .a ?_; refine .sq ?_; refine .seq ?_; refine .seq ?_; refine .region ?_; refine .x (OpSem.call0 (law_countingExample_does) rfl rfl rfl rfl (Les.refl _)) ?_; refine .x (OpSem.not rfl rfl) ?_; refine .sq ?_; refine .condF rfl rfl ?_; refine .skip ?_; refine .z ?_; refine .x (OpSem.loadbN rfl rfl rfl vs25 (by first | decide | simp)) ?_; refine .x (OpSem.call0 (counting_Bound_does t o hS) rfl rfl rfl rfl (Les.refl _)) ?_; refine .m ?_; refine .x (OpSem.extract rfl rfl rfl) ?_; refine .x (OpSem.extract rfl rfl rfl) ?_; refine .semM (OpSem.alloc 3 rfl zc28 rfl) rfl rfl (by decide) ?_; refine .semM (OpSem.alloc 4 rfl zc30 rfl) rfl rfl (by decide) ?_; refine .sb vs28 ?_; refine .sb vs30 ?_; refine .z ?_; refine .x (OpSem.loadbN rfl rfl rfl vs25 (by first | decide | simp)) ?_; refine .x (OpSem.call0 (R_TaskFault_does t) rfl rfl rfl rfl (Les.refl _)) ?_; refine .semM (OpSem.alloc 5 rfl zc30 rfl) rfl rfl (by decide) ?_; refine .sb vs30 ?_; refine .sq ?_; refine .cut [(1, .r 1 0), (3, .r 3 0), (4, .r 4 0), (5, .r 5 0)] [(1, .box [I (t.facts), .d (ints t.ini), .d (ints t.goal), .d (sopsD t.ops)]), (3, .box [I (((bdR t o)).1), I (((bdR t o)).2)]), (4, .box [I ((cpF t).1), I ((cpF t).2)]), (5, .box [I ((cpF t).1), I ((cpF t).2)])] ?_ ?_
 ·refine .seq ?_; refine .region ?_; refine .x (.f fo30_0) ?_; refine .x (.l vs3) ?_; refine .x (.b beql) ?_; refine .m ?_; refine .split (n := 23) rfl (fun c23 => ?_) (fun c23 => ?_)
  ·refine .gt c23 ?_; refine .x (OpSem.loadbN rfl rfl rfl vs25 (by first | decide | simp)) ?_; refine .gt c23 ?_; refine .x (OpSem.call0 (Q_CountingLarge_does t) rfl rfl rfl rfl (Les.refl _)) ?_; refine .x (OpSem.pickT rfl rfl c23 rfl) ?_; refine .sq ?_; refine .cond rfl (fun c26 => ?_) (fun c26 => ?_)
   ·refine .region ?_; refine .x (OpSem.call0 (R_At_does ..) rfl rfl rfl rfl (Les.refl _)) ?_; refine .sb vs30 ?_; refine .nil ?_
    have he := cpF_2 (tskF_code (by simpa using c23)) (by simpa using c26)
    refine .meet ?_; exact .sl <| .sl <| .sl <| .sl <| .mem rfl <| .mem rfl <| .mem rfl <| .boxLe rfl (.cons (Le.i (congrArg Prod.fst (he))) <| .cons (Le.i (congrArg Prod.snd (he))) <| .nil) <| .nil
   ·refine .skip ?_
    have he : tskF t = cpF t := by have q := tskF_code (t := t) (by simpa using c23); rw [q]; exact cpF_0 q (by simpa using c26)
    refine .meet ?_; exact .sl <| .sl <| .sl <| .sl <| .mem rfl <| .mem rfl <| .mem rfl <| .boxLe rfl (.cons (Le.i (congrArg Prod.fst (he))) <| .cons (Le.i (congrArg Prod.snd (he))) <| .nil) <| .nil
  ·refine .gf c23 ?_; refine .gf c23 ?_; refine .x (OpSem.pickF rfl rfl c23 rfl) ?_; refine .sq ?_; refine .condF rfl rfl ?_; refine .skip ?_
   have he := cpF_1 (t := t) (fun h => by simp [h] at c23)
   refine .meet ?_; exact .sl <| .sl <| .sl <| .sl <| .mem rfl <| .mem rfl <| .mem rfl <| .boxLe rfl (.cons (Le.i (congrArg Prod.fst (he))) <| .cons (Le.i (congrArg Prod.snd (he))) <| .nil) <| .nil
 ·refine .seq ?_; refine .seq ?_; refine .region ?_; refine .x (.f fo30_0) ?_; refine .x (.l vs3) ?_; refine .x (.b bneq) ?_; refine .sq ?_; refine .cond rfl (fun c30 => ?_) (fun c30 => ?_)
  ·have hne : cpF t ≠ (0, 0) := fun h => by simp [h] at c30
   refine .seq ?_; refine .region ?_; refine .x (OpSem.loadbN rfl rfl rfl vs30 (by first | decide | simp)) ?_; refine .x (OpSem.loadbN rfl rfl rfl vs30 (by first | decide | simp)) ?_; refine .x (OpSem.eqS2 rfl rfl rfl io30) ?_; refine .m ?_; refine .gT rfl rfl rfl rfl (by simp) ?_; refine .x (OpSem.loadbN rfl rfl rfl vs28 (by first | decide | simp)) ?_; refine .gT rfl rfl rfl rfl (by simp) ?_; refine .x (OpSem.build rfl rfl pl28 zc28 rfl rfl) ?_; refine .gT rfl rfl rfl rfl (by simp) ?_; refine .x (OpSem.eqS2 rfl rfl rfl io28) ?_; refine .x (OpSem.pickT rfl rfl (by simp) rfl) ?_; refine .a ?_; refine .sq ?_; refine .ret ?_; refine .pass_ret ?_; exact .ret rfl (.tmp rfl <| .nil) rfl (Le.bo (by first | rfl | (rw [← bd_1 hne]; rfl) | (rw [hbd]; rfl) | (rw [hbd]; simp; done) | (simp; done)))
  ·have h0 : cpF t = (0, 0) := cpF_code (by simpa using c30)
   obtain ⟨hT, hL⟩ := cpF_inv h0
   have hV := tskF_v hT
   have hp := cpA_lc h0
   refine .skip ?_; refine .z ?_; refine .x (OpSem.loadbN rfl rfl rfl vs25 (by first | decide | simp)) ?_; refine .x (OpSem.call0 (Q_CountingProgram_does t hV hL) rfl rfl rfl rfl (Les.refl _)) ?_; refine .x (OpSem.call0 (S3_LinearValue_does (cpA t) hp) rfl rfl rfl rfl (Les.refl _)) ?_; refine .m ?_; refine .x (OpSem.extract rfl rfl rfl) ?_; refine .x (OpSem.extract rfl rfl rfl) ?_; refine .x (OpSem.extract rfl rfl rfl) ?_; refine .a ?_; refine .a ?_; refine .a ?_; refine .sq ?_; refine .seq ?_; refine .seq ?_; refine .region ?_; refine .x (.f fo30_0) ?_; refine .x (.l vs3) ?_; refine .x (.b bneq) ?_; refine .m ?_; refine .gT rfl rfl rfl rfl (by rw [h0]; rfl) ?_; refine .m ?_; refine .gT rfl rfl rfl rfl (by rw [h0]; rfl) ?_; refine .x (.b beql) ?_; refine .x (OpSem.pickF rfl rfl (by rw [h0]; rfl) rfl) ?_; refine .sq ?_; refine .condF rfl (by rcases hB h0 with h | h <;> rw [h.1] <;> rfl) ?_; refine .skip ?_; refine .seq ?_; refine .seq ?_; refine .seq ?_; refine .region ?_; refine .m ?_; refine .x (.b beql) ?_; refine .sq ?_; refine .cond rfl (fun c54 => ?_) (fun c54 => ?_)
   ·have hs : lvS (cpA t) = 2 := by simpa using c54
    have hbd : bdR t o = (1000000000, 1) := by rcases hB h0 with h | h; exact h.2; rw [h.1] at hs; simp at hs
    refine .seq ?_; refine .region ?_; refine .x (OpSem.loadbN rfl rfl rfl vs28 (by first | decide | simp)) ?_; refine .x (OpSem.build rfl rfl pl28 zc28 rfl rfl) ?_; refine .x (OpSem.eqS2 rfl rfl rfl io28) ?_; refine .a ?_; refine .sq ?_; refine .ret ?_; refine .pass_ret ?_; exact .ret rfl (.tmp rfl <| .nil) rfl (Le.bo (by first | rfl | (rw [← bd_1 hne]; rfl) | (rw [hbd]; rfl) | (rw [hbd]; simp; done) | (simp; done)))
   ·have hs : lvS (cpA t) ≠ 2 := by simpa using c54
    obtain ⟨_, hl, hbd⟩ := (hB h0).resolve_left (fun h => hs h.1)
    obtain ⟨⟨n1, n2⟩, n3, n4⟩ := lvN_in hp hl
    refine .skip ?_; refine .z ?_; refine .m ?_; refine .x (OpSem.neg rfl rfl (neg_in (by omega) (by omega))) ?_; refine .m ?_; refine .x (OpSem.call0 (S3_Lowest_does (-(lvN (cpA t)).1) (lvN (cpA t)).2 (by omega) (by omega)) rfl rfl rfl rfl (Les.refl _)) ?_; refine .m ?_; refine .x (OpSem.extract rfl rfl rfl) ?_; refine .x (OpSem.extract rfl rfl rfl) ?_; refine .semM (OpSem.alloc 9 rfl zc28 rfl) rfl rfl (by decide) ?_; refine .sb vs28 ?_; refine .a ?_; refine .z ?_; refine .m ?_; refine .m ?_; refine .gt rfl ?_; refine .x (OpSem.loadbN rfl rfl rfl vs28 (by first | decide | simp)) ?_; refine .gt rfl ?_; refine .x (OpSem.loadbN rfl rfl rfl vs28 (by first | decide | simp)) ?_; refine .gt rfl ?_; refine .x (OpSem.eqS2 rfl rfl rfl io28) ?_; refine .x (OpSem.pickT rfl rfl rfl rfl) ?_; refine .a ?_; refine .sq ?_; refine .ret ?_; exact .ret rfl (.tmp rfl <| .nil) rfl (Le.bo (by first | rfl | (rw [← bd_1 hne]; rfl) | (rw [hbd]; rfl) | (rw [hbd]; simp; done) | (simp; done)))

end Go.Proofs.Ytlidcpmdgceboaa
end

section
/- The frame: what an argument that reads is, as data; and how a proved contract becomes the row's step. -/







namespace Go.Eng
open Go Go.RowKit

/-- A row of cells holds these data. -/
def CellsD (W : World) (cs : List Value) (ds : List D) : Prop := cs.length = ds.length ∧ ∀ (i : Nat) (x : Value) (d : D), cs[i]? = some x → ds[i]? = some d → RepD zO W x d
theorem CellsD.app {W : World} {a b : List Value} {c d : List D} (h : CellsD W a c) (k : CellsD W b d) : CellsD W (a ++ b) (c ++ d) := by
  refine ⟨by simp [h.1, k.1], fun i x y hx hy => ?_⟩
  by_cases hi : i < a.length
  · rw [List.getElem?_append_left hi] at hx
    rw [List.getElem?_append_left (by rw [← h.1]; exact hi)] at hy
    exact h.2 i x y hx hy
  · rw [List.getElem?_append_right (by omega)] at hx
    rw [List.getElem?_append_right (by rw [← h.1]; omega), ← h.1] at hy
    exact k.2 _ x y hx hy

/-- Whatever reads at the type is data of this form. -/
abbrev in64 (n : Int) : Prop := -9223372036854775808 ≤ n ∧ n ≤ 9223372036854775807
def Dec (P : Program) (t : TypeId) {β : Type} (k : Nat) (f : β → List D) (R : β → Prop) : Prop :=
  P.cellsOf t = k ∧ (∀ b, (f b).length = k) ∧
    ∀ (H : Type) (enc : TypeId × Value → H) (W : World) (fuel : Nat) (cs : List Value) (x : DataW H × List MemPlace), DataW.trod enc P W 0 (fun _ => true) true fuel t cs = some x → ∃ b, R b ∧ CellsD W cs (f b)
theorem Dec.map {P : Program} {t : TypeId} {β γ : Type} {k : Nat} {f : β → List D} {f' : γ → List D} {R : β → Prop} {R' : γ → Prop} (h : Dec P t k f R) (g : β → γ) (g' : γ → β) (hg : ∀ b, f' (g b) = f b) (hg' : ∀ c, f' c = f (g' c)) (hR : ∀ b, R b → R' (g b)) : Dec P t k f' R' :=
  ⟨h.1, fun c => by rw [hg', h.2.1], fun H enc W fuel cs x hx => let ⟨b, hr, hb⟩ := h.2.2 H enc W fuel cs x hx; ⟨g b, hR b hr, by rw [hg]; exact hb⟩⟩
theorem Dec.int {P : Program} {t : TypeId} (ht : P.underlying t = some (.int .i64)) (hc : P.cellsOf t = 1) : Dec P t 1 (fun n : Int => [D.v (.int .i64 n)]) in64 :=
  ⟨hc, fun _ => rfl, fun H enc W fuel cs x hx => by
    obtain ⟨n, rfl, _, hw⟩ := DataW.trod_int ht hx
    refine ⟨n, ?_, rfl, fun i x d hx hd => ?_⟩
    · simp only [Lit.wf, Bool.and_eq_true, decide_eq_true_eq] at hw
      have h1 := hw.1
      have h2 := hw.2
      have e1 : IntKind.i64.min = -9223372036854775808 := by decide
      have e2 : IntKind.i64.max = 9223372036854775807 := by decide
      unfold in64
      omega
    · cases i with
      | zero => simp at hx hd; subst hx; subst hd; exact .v _
      | succ i => simp at hx⟩
theorem Dec.bool {P : Program} {t : TypeId} (ht : P.underlying t = some .bool) (hc : P.cellsOf t = 1) : Dec P t 1 (fun n : Bool => [D.v (.bool n)]) (fun _ => True) :=
  ⟨hc, fun _ => rfl, fun H enc W fuel cs x hx => by
    have key : ∃ b, cs = [.bool b] := by
      cases fuel with
      | zero => simp [DataW.trod] at hx
      | succ m =>
        unfold DataW.trod at hx
        rw [ht] at hx
        split at hx <;> simp_all
    obtain ⟨b, rfl⟩ := key
    refine ⟨b, trivial, rfl, fun i x d hx hd => ?_⟩
    cases i with
    | zero => simp at hx hd; subst hx; subst hd; exact .v _
    | succ i => simp at hx⟩
theorem choose_list {β : Type} {p : Nat → β → Prop} : ∀ (n : Nat), (∀ i, i < n → ∃ b, p i b) → ∃ l : List β, l.length = n ∧ ∀ i b, l[i]? = some b → p i b
  | 0, _ => ⟨[], rfl, fun i b h => by simp at h⟩
  | n + 1, h => by
    obtain ⟨l, h1, h2⟩ := choose_list n fun i hi => h i (by omega)
    obtain ⟨b, hb⟩ := h n (by omega)
    refine ⟨l ++ [b], by simp [h1], fun i c hc => ?_⟩
    by_cases hi : i < n
    · rw [List.getElem?_append_left (by omega)] at hc; exact h2 i c hc
    · rw [List.getElem?_append_right (by omega)] at hc
      cases hz : i - l.length with
      | zero =>
        rw [hz] at hc; simp at hc; subst hc
        have : i = n := by omega
        rw [this]; exact hb
      | succ j => rw [hz] at hc; simp at hc
theorem Dec.slice {P : Program} {t e : TypeId} {β : Type} {k : Nat} {f : β → List D} {R : β → Prop} (ht : P.underlying t = some (.slice e)) (hc : P.cellsOf t = 1) (he : Dec P e k f R) (hk0 : 0 < k) : Dec P t 1 (fun l : List β => [D.s k (l.map f)]) (fun l => ∀ b, b ∈ l → R b) := by
  refine ⟨hc, fun _ => rfl, fun H enc W fuel cs x hx => ?_⟩
  have one : ∀ (v : Value) (d : D), RepD zO W v d → CellsD W [v] [d] := fun v d h => ⟨rfl, fun i x d' hx hd => by
    cases i with
    | zero => simp at hx hd; subst hx; subst hd; exact h
    | succ i => simp at hx⟩
  rcases Go.Deep.open_slice ht hx with ⟨rfl, _⟩ | ⟨a, len, cap, m, n, Dx, Pl, rfl, _, hl, hm, hmm, _, hel⟩
  · exact ⟨[], fun b hb => by simp at hb, one _ _ (.e none 0 k (by simp [maxLen]))⟩
  · have hmc : len ≤ m := by rw [hmm]; split <;> omega
    obtain ⟨l, hll, hlp⟩ := choose_list (β := β) (p := fun i b => R b ∧ ∃ cs', W.cells? 0 (a.add (i * P.cellsOf e)) (P.cellsOf e) = some cs' ∧ CellsD W cs' (f b)) len (fun i hi => by
      obtain ⟨cs', h1, h2⟩ := hel i (by omega)
      obtain ⟨b, hr, hb⟩ := he.2.2 H enc W n cs' _ h2
      exact ⟨b, hr, cs', h1, hb⟩)
    refine ⟨l, fun b hb => by obtain ⟨i, hi⟩ := List.getElem?_of_mem hb; exact (hlp i b hi).1, one _ _ ?_⟩
    have hlp := fun i b h => (hlp i b h).2
    cases l with
    | nil =>
      simp at hll
      subst hll
      exact .e _ cap k hm
    | cons b0 l0 =>
      generalize hL : b0 :: l0 = l at hll hlp
      obtain ⟨ab, ao, asp⟩ := a
      have hsp : asp = none := by
        obtain ⟨cs', h1, h2⟩ := hlp 0 b0 (by rw [← hL]; rfl)
        obtain ⟨_, g1, g2⟩ := World.cells?_some h1
        have hj : 0 < cs'.length := by rw [g1, he.1]; exact hk0
        have := g2 0 (by rw [he.1]; exact hk0)
        rw [List.getElem?_eq_getElem hj, Nat.zero_mul] at this
        exact World.cell?_spot (by simpa [Addr.add] using this)
      subst hsp
      have hadd : ∀ p q : Nat, ((⟨ab, ao, none⟩ : Addr).add p).add q = ⟨ab, ao + (p + q), none⟩ := by
        intro p q
        unfold Addr.add
        split <;> split <;> simp <;> omega
      have hcell : ∀ (i : Nat) (b : β), l[i]? = some b → ∀ (j : Nat) (d : D), (f b)[j]? = some d → ∃ x, W.cell? ⟨ab, ao + (i * k + j), none⟩ = some x ∧ RepD zO W x d := by
        intro i b hb j d hd
        obtain ⟨cs', h1, h2⟩ := hlp i b hb
        obtain ⟨_, g1, g2⟩ := World.cells?_some h1
        have hj : j < P.cellsOf e := by rw [he.1, ← he.2.1 b]; exact (List.getElem?_eq_some_iff.1 hd).1
        have hj' : j < cs'.length := by omega
        have := g2 j hj
        rw [List.getElem?_eq_getElem hj', hadd, he.1] at this
        exact ⟨cs'[j], this, h2.2 j _ d (List.getElem?_eq_getElem hj') hd⟩
      have hrow : ∀ (i : Nat) (r : List D), (l.map f)[i]? = some r → ∃ b, l[i]? = some b ∧ r = f b := by
        intro i r hr
        simp only [List.getElem?_map, Option.map_eq_some_iff] at hr
        obtain ⟨b, h1, h2⟩ := hr
        exact ⟨b, h1, h2.symm⟩
      have hlen : len = (l.map f).length := by simp [hll]
      rw [hlen]
      refine .s ab ao cap k (l.map f) (fun q => (W.cell? ⟨ab, ao + q, none⟩).getD undef) (by omega) hm (fun r hr => ?_) (fun _ _ _ _ _ _ => rfl) (fun i r j d hi hj => ?_) (fun i r j d hi hj => ?_)
      · obtain ⟨b, _, rfl⟩ := List.mem_map.1 hr; exact he.2.1 b
      · obtain ⟨b, hb, rfl⟩ := hrow i r hi
        obtain ⟨x, hx, _⟩ := hcell i b hb j d hj
        rw [hx]; rfl
      · obtain ⟨b, hb, rfl⟩ := hrow i r hi
        obtain ⟨x, hx, hr⟩ := hcell i b hb j d hj
        simp only [hx, Option.getD_some]; exact hr

/-! ### Structs -/
theorem drop_take_app {α : Type} (l : List α) (a b : Nat) : (l.drop 0).take (a + b) = (l.drop 0).take a ++ (l.drop a).take b := by
  simp [List.take_add]
theorem Dec.struct4 {P : Program} {t : TypeId} {f0 f1 f2 f3 : Field} {β0 β1 β2 β3 : Type} {k0 k1 k2 k3 : Nat} {e0 : β0 → List D} {e1 : β1 → List D} {e2 : β2 → List D} {e3 : β3 → List D} {R0 : β0 → Prop} {R1 : β1 → Prop} {R2 : β2 → Prop} {R3 : β3 → Prop} (ht : P.underlying t = some (.struct #[f0, f1, f2, f3])) (hc : P.cellsOf t = k0 + k1 + k2 + k3)
    (o0 : f0.offset = 0) (o1 : f1.offset = k0) (o2 : f2.offset = k0 + k1) (o3 : f3.offset = k0 + k1 + k2) (h0 : Dec P f0.type k0 e0 R0) (h1 : Dec P f1.type k1 e1 R1) (h2 : Dec P f2.type k2 e2 R2) (h3 : Dec P f3.type k3 e3 R3) :
    Dec P t (k0 + k1 + k2 + k3) (fun b : β0 × β1 × β2 × β3 => e0 b.1 ++ e1 b.2.1 ++ e2 b.2.2.1 ++ e3 b.2.2.2) (fun b => R0 b.1 ∧ R1 b.2.1 ∧ R2 b.2.2.1 ∧ R3 b.2.2.2) := by
  refine ⟨hc, fun b => by simp [h0.2.1, h1.2.1, h2.2.1, h3.2.1]; omega, fun H enc W fuel cs x hx => ?_⟩
  obtain ⟨xs, n, _, _, hl, hn, hf⟩ := DataW.trod_struct ht hx
  have g0 := hf 0 f0 rfl
  have g1 := hf 1 f1 rfl
  have g2 := hf 2 f2 rfl
  have g3 := hf 3 f3 rfl
  rw [o0, h0.1, List.getElem?_eq_getElem (by rw [hn]; simp)] at g0
  rw [o1, h1.1, List.getElem?_eq_getElem (by rw [hn]; simp)] at g1
  rw [o2, h2.1, List.getElem?_eq_getElem (by rw [hn]; simp)] at g2
  rw [o3, h3.1, List.getElem?_eq_getElem (by rw [hn]; simp)] at g3
  obtain ⟨b0, r0, c0⟩ := h0.2.2 H enc W n _ _ g0
  obtain ⟨b1, r1, c1⟩ := h1.2.2 H enc W n _ _ g1
  obtain ⟨b2, r2, c2⟩ := h2.2.2 H enc W n _ _ g2
  obtain ⟨b3, r3, c3⟩ := h3.2.2 H enc W n _ _ g3
  refine ⟨(b0, b1, b2, b3), ⟨r0, r1, r2, r3⟩, ?_⟩
  have := ((c0.app c1).app c2).app c3
  rwa [← drop_take_app, ← drop_take_app, ← drop_take_app, List.drop_zero, List.take_of_length_le (by omega)] at this

/-! ### Arguments -/
/-- One cell. -/
theorem Dec.arg {P : Program} {t : TypeId} {β : Type} {f : β → D} {R : β → Prop} (h : Dec P t 1 (fun b => [f b]) R) {H : Type} {enc : TypeId × Value → H} {W : World} {v : Value} {d : DataW H} {ps : List MemPlace} (hv : v.cells.toList = [v]) (hx : DataW.Trod enc P W 0 (fun _ => true) true t v d ps) : ∃ b, R b ∧ RepS zO zH W v (.d (f b)) := by
  obtain ⟨fuel, hf⟩ := hx
  obtain ⟨b, hr, hb⟩ := h.2.2 H enc W fuel _ _ hf
  rw [hv] at hb
  exact ⟨b, hr, .d _ _ (hb.2 0 v _ rfl rfl)⟩
/-- A struct. -/
theorem Dec.argG {P : Program} {t : TypeId} {β : Type} {k : Nat} {f : β → List D} {R : β → Prop} (h : Dec P t k f R) (h1 : ∀ b, (f b).all D.one = true) {H : Type} {enc : TypeId × Value → H} {W : World} {cs : Array Value} {d : DataW H} {ps : List MemPlace} (hx : DataW.Trod enc P W 0 (fun _ => true) true t (.agg cs) d ps) :
    ∃ b, R b ∧ RepS zO zH W (.agg cs) (.g ((f b).map .d)) := by
  obtain ⟨fuel, hf⟩ := hx
  obtain ⟨b, hr, hb⟩ := h.2.2 H enc W fuel _ _ hf
  simp only [Value.cells] at hb
  refine ⟨b, hr, ?_⟩
  have := RepS.g (O := zO) (H := zH) (w := W) cs.toList ((f b).map .d) (by simp [hb.1]) (fun x hx => ?_) (fun i x s hx hs => ?_)
  · simpa using this
  · obtain ⟨i, hi⟩ := List.getElem?_of_mem hx
    have hlt : i < (f b).length := by rw [← hb.1]; exact (List.getElem?_eq_some_iff.1 hi).1
    exact (hb.2 i x _ hi (List.getElem?_eq_getElem hlt)).one' (List.all_eq_true.1 (h1 b) _ (List.getElem_mem hlt))
  · simp only [List.getElem?_map, Option.map_eq_some_iff] at hs
    obtain ⟨y, hy, rfl⟩ := hs
    exact .d _ _ (hb.2 i x y hx hy)
theorem reps_nil {O : Nat → Nat} {H : Nat → Value} {w : World} : ∀ (i : Nat) (x : Value) (s : S), ([] : List Value)[i]? = some x → ([] : List S)[i]? = some s → RepS O H w x s := fun i x s h => by simp at h
theorem reps_cons {O : Nat → Nat} {H : Nat → Value} {w : World} {v : Value} {t : S} {vs : List Value} {ts : List S} (h : RepS O H w v t) (k : ∀ (i : Nat) (x : Value) (s : S), vs[i]? = some x → ts[i]? = some s → RepS O H w x s) :
    ∀ (i : Nat) (x : Value) (s : S), (v :: vs)[i]? = some x → (t :: ts)[i]? = some s → RepS O H w x s := fun i x s hx hs => by
  cases i with
  | zero => simp at hx hs; subst hx; subst hs; exact h
  | succ i => exact k i x s (by simpa using hx) (by simpa using hs)
theorem RepS.isB {O : Nat → Nat} {H : Nat → Value} {w : World} {x : Value} {b : Bool} (h : RepS O H w x (Bo b)) : x = .bool b := by
  cases h with
  | d _ _ q => cases q with
    | v _ => rfl
end Go.Eng
end
