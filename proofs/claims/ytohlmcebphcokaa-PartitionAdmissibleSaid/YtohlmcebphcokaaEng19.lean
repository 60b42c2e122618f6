/- The engine, part 19: a region whose order is open, where one operation may come late. -/
import Derived.Test.YtohlmcebphcokaaEng18
set_option linter.unusedSimpArgs false
set_option linter.unnecessarySimpa false
set_option linter.unusedVariables false
namespace Go.Eng
open Go.RowKit (Below)

/-- e2 is e without slot d. -/
inductive DropR (d : Nat) : Env → Env → Prop
  | nil : DropR d [] []
  | hit {n : Nat} {s : S} {e e2 : Env} (h : Nat.beq n d = true) : DropR d e e2 → DropR d ((n, s) :: e) e2
  | miss {n : Nat} {s : S} {e e2 : Env} (h : Nat.beq n d = false) : DropR d e e2 → DropR d ((n, s) :: e) ((n, s) :: e2)

section
variable {P : Program} {N : Nat} {w0 : World} {O0 : Nat → Nat} {ops : Array Oper} {Q : Post} {e0 : Env} {M0 : Mem} {hs : List Nat}

/-- As parOk, but operation f of the open part may also come just behind operation k. -/
def parOkL (ops : Array Oper) (k f : Nat) : Bool :=
  let ds : List (Option Nat) := ops.toList.map (·.dst)
  decide (f < k) && (List.range ops.size).all fun i => match ops[i]? with
    | none => false
    | some o =>
      (o.after.all fun e => !(Region.binds .any e) || decide (e.on < i)) &&
      (if i < k then
        (List.range k).all fun j => match ds.getD j none with
          | some d => (i == j || o.dst != some d) && (!((tmpsOf ops o).contains d) || (decide (j < i) && prec ops 9 i j) || (decide (i < j) && prec ops 9 j i))
          | none => true
      else (List.range i).all fun j => (i == k && j == f) || prec ops 9 i j)
theorem parOkL_hd {ops : Array Oper} {k f : Nat} (hok : parOkL ops k f = true) : ParHd ops k := by
  intro i o hik ho
  unfold parOkL at hok
  simp only [Bool.and_eq_true, List.all_eq_true, List.mem_range] at hok
  have := hok.2 i (Array.getElem?_eq_some_iff.1 ho).1
  simp only [ho, hik, if_true, Bool.and_eq_true] at this
  exact this.2
/-- Slots without those of one name. -/
def dropE (d : Nat) (e : Env) : Env := e.filter fun x => !(Nat.beq x.1 d)
theorem look_dropE {d n : Nat} {s : S} : ∀ {e : Env}, look (dropE d e) n = some s → n ≠ d ∧ look e n = some s
  | [], h => by simp [dropE, look] at h
  | (a, b) :: e, h => by
    unfold dropE at h
    rw [List.filter_cons] at h
    split at h
    · rename_i hx
      rcases look_cons h with ⟨rfl, rfl⟩ | ⟨hne, h⟩
      · exact ⟨fun e => by subst e; simp at hx, look_cons_same _ _ _⟩
      · obtain ⟨h1, h2⟩ := look_dropE (e := e) h
        refine ⟨h1, ?_⟩
        simp only [look]
        have : Nat.beq a n = false := by cases hb : Nat.beq a n with
          | false => rfl
          | true => exact (hne (Nat.eq_of_beq_eq_true hb).symm).elim
        rw [this]; exact h2
    · rename_i hx
      obtain ⟨h1, h2⟩ := look_dropE (e := e) h
      refine ⟨h1, ?_⟩
      have ha : a = d := by simp at hx; exact hx
      simp only [look]
      have : Nat.beq a n = false := by cases hb : Nat.beq a n with
        | false => rfl
        | true => exact (h1 ((Nat.eq_of_beq_eq_true hb).symm.trans ha)).elim
      rw [this]; exact h2

/-- Every order of the open part is served, f behind k too. -/
theorem par_late {k f : Nat} {ps : List PO} {pf : PO} {ok of : Oper} (hpw : PW P w0.heap.size ops hs M0 (ops.toList.take k) ps e0) (hk : k ≤ ops.size) (hok : parOkL ops k f = true) (hh : handOk e0 M0 ps = true) (hso : stOk hs ps = true) (hN : ∀ p, p ∈ ps → p.ds = true → p.d < N)
    (hpf : ps[f]? = some pf) (hpfs : pf.st = none) (hpfm : pf.mo = none) (hpfd : pf.ds = true) (hokk : ops[k]? = some ok) (hof : ops[f]? = some of)
    (ht : TrOps P N w0 O0 ops Q (finE e0 ps) (finM M0 ps) (ops.toList.drop k)) (htl : TrOps P N w0 O0 ops Q (finE (dropE pf.d e0) (ps.eraseIdx f)) (finM M0 (ps.eraseIdx f)) (ok :: of :: ops.toList.drop (k + 1))) :
    ∀ (fuel : Nat) (L : Array Bool) (a : Act) (w : World), L.size = ops.size → (∀ i, i < ops.size → L.getD i false = false → fuel ≠ 0) → ((List.range ops.size).filter fun i => !L.getD i false).length ≤ fuel →
      (∀ i, L.getD i false = true → ∀ o, ops[i]? = some o → ∀ e, e ∈ o.after → Region.binds .any e = true → L.getD e.on false = true) →
      ((∃ O H, PSt N w0 O0 e0 hs M0 ps L O H a w ∧ ∀ i, k ≤ i → L.getD i false = false) ∨ (∃ i0, k ≤ i0 ∧ (∀ i, i < ops.size → (L.getD i false = true ↔ i < i0)) ∧ i0 ≤ ops.size ∧ wpList P ops Q (ops.toList.drop i0) a w) ∨ ((∀ i, i < ops.size → (L.getD i false = true ↔ (i < k + 1 ∧ i ≠ f))) ∧ wpList P ops Q (of :: ops.toList.drop (k + 1)) a w)) →
      wpAny P .any ops Q fuel L a w := by
  have hops : ∀ i, i < ops.size → ∃ o, ops[i]? = some o := fun i hi => ⟨ops[i], Array.getElem?_eq_getElem hi⟩
  have hfk : f < k := by unfold parOkL at hok; simp only [Bool.and_eq_true, decide_eq_true_eq] at hok; exact hok.1
  have hkn : k < ops.size := (Array.getElem?_eq_some_iff.1 hokk).1
  have hlenp : ps.length = k := by have := hpw.get.1; rw [← this]; simp; omega
  have hchk : ∀ i o, ops[i]? = some o → (∀ e, e ∈ o.after → Region.binds .any e = true → e.on < i) ∧ (k ≤ i → ∀ j, j < i → ¬ (i = k ∧ j = f) → prec ops 9 i j = true) := by
    intro i o ho
    have hi : i < ops.size := (Array.getElem?_eq_some_iff.1 ho).1
    unfold parOkL at hok
    simp only [Bool.and_eq_true, List.all_eq_true, List.mem_range] at hok
    have := hok.2 i hi
    simp only [ho, Bool.and_eq_true] at this
    obtain ⟨h1, h2⟩ := this
    refine ⟨fun e he hb => ?_, fun hki j hj hne => ?_⟩
    · have := Array.all_eq_true'.1 h1 e he
      simp only [hb, Bool.not_true, Bool.false_or, decide_eq_true_eq] at this
      exact this
    · rw [if_neg (by omega)] at h2
      have h3 := List.all_eq_true.1 h2 j (List.mem_range.2 hj)
      simp only [Bool.or_eq_true, Bool.and_eq_true, beq_iff_eq] at h3
      exact h3.resolve_left hne
  -- the open part is through: what follows goes in the order of the text
  have turn : ∀ (L : Array Bool) (a : Act) (w : World), L.size = ops.size → (∀ i, i < k → L.getD i false = true) → (∀ i, k ≤ i → L.getD i false = false) → (∃ O H, PSt N w0 O0 e0 hs M0 ps L O H a w) →
      (∀ i, i < ops.size → (L.getD i false = true ↔ i < k)) ∧ wpList P ops Q (ops.toList.drop k) a w := by
    rintro L a w hL h1 h2 ⟨O, H, hst⟩
    refine ⟨fun i hi => ⟨fun h => ?_, h1 i⟩, ht O H a w ⟨hst.df, hst.sz, hst.bl, hst.lab, fun n s hs => ?_, fun h m hm => ?_⟩⟩
    · rcases Nat.lt_or_ge i k with h' | h'
      · exact h'
      · rw [h2 i h'] at h; cases h
    · have hlen : ps.length = k := by have := hpw.get.1; rw [← this]; simp; omega
      rcases look_finE hs with ⟨i, p, hp, hps, rfl, rfl⟩ | ⟨h1', h2'⟩
      · exact hst.new i p hp hps (h1 i (by rw [← hlen]; exact (List.getElem?_eq_some_iff.1 hp).1))
      · exact hst.old n s h2' (fun j p hj hs he => absurd he (h1' p (List.mem_of_getElem? hj) hs))
    · have hlen : ps.length = k := by have := hpw.get.1; rw [← this]; simp; omega
      rcases look_finM hm with ⟨i, p, hp, hps, hmo⟩ | ⟨i, p, m0, hp, hps⟩ | ⟨hns, hm⟩
      · exact hst.mnew i p h m hp (h1 i (by rw [← hlen]; exact (List.getElem?_eq_some_iff.1 hp).1)) hps hmo
      · have := hst.sto i p h m0 m hp hps
        rwa [if_pos (h1 i (by rw [← hlen]; exact (List.getElem?_eq_some_iff.1 hp).1))] at this
      · refine hst.mold h m (look_dropM_of (fun hin => ?_) hm)
        unfold stOk at hso
        simp only [Bool.and_eq_true] at hso
        obtain ⟨p, hp, he⟩ := List.any_eq_true.1 (List.all_eq_true.1 hso.2 h hin)
        cases hps : p.st with
        | none => rw [hps] at he; cases he
        | some x =>
          obtain ⟨h', m0, m1⟩ := x
          rw [hps] at he
          exact hns p hp h' m0 m1 hps (Nat.eq_of_beq_eq_true he)
  have erase : ∀ (i : Nat) (p : PO), (ps.eraseIdx f)[i]? = some p → ∃ i', i' ≠ f ∧ i' < k ∧ ps[i']? = some p := by
    intro i p hp
    rw [List.getElem?_eraseIdx] at hp
    split at hp
    · exact ⟨i, by omega, by rw [← hlenp]; exact (List.getElem?_eq_some_iff.1 hp).1, hp⟩
    · exact ⟨i + 1, by omega, by rw [← hlenp]; exact (List.getElem?_eq_some_iff.1 hp).1, hp⟩
  have erase2 : ∀ (i : Nat) (p : PO), i ≠ f → ps[i]? = some p → p ∈ ps.eraseIdx f := by
    intro i p hne hp
    by_cases h : i < f
    · exact List.mem_of_getElem? (i := i) (by rw [List.getElem?_eraseIdx, if_pos h]; exact hp)
    · refine List.mem_of_getElem? (i := i - 1) ?_
      rw [List.getElem?_eraseIdx, if_neg (by omega)]
      have : i - 1 + 1 = i := by omega
      rw [this]; exact hp
  -- all but f are through, and operation k comes up
  have turnL : ∀ (L : Array Bool) (a : Act) (w : World), L.size = ops.size → (∀ i, i < k → i ≠ f → L.getD i false = true) → (∃ O H, PSt N w0 O0 e0 hs M0 ps L O H a w) →
      wpList P ops Q (ok :: of :: ops.toList.drop (k + 1)) a w := by
    rintro L a w hL h1 ⟨O, H, hst⟩
    refine htl O H a w ⟨hst.df, hst.sz, hst.bl, hst.lab, fun n s hs => ?_, fun h m hm => ?_⟩
    · rcases look_finE hs with ⟨i, p, hp, hps, rfl, rfl⟩ | ⟨h1', h2'⟩
      · obtain ⟨i', h3, h4, h5⟩ := erase i p hp
        exact hst.new i' p h5 hps (h1 i' h4 h3)
      · obtain ⟨h3, h4⟩ := look_dropE h2'
        refine hst.old n s h4 fun j p hj hps he => absurd he ?_
        have hp := List.mem_of_getElem? hj
        obtain ⟨i, hi⟩ := List.getElem?_of_mem hp
        by_cases hif : i = f
        · subst hif; rw [hpf] at hi; cases hi; exact fun e => h3 e.symm
        · exact h1' p (erase2 i p hif hi) hps
    · rcases look_finM hm with ⟨i, p, hp, hps, hmo⟩ | ⟨i, p, m0, hp, hps⟩ | ⟨hns, hm⟩
      · obtain ⟨i', h3, h4, h5⟩ := erase i p hp
        exact hst.mnew i' p h m h5 (h1 i' h4 h3) hps hmo
      · obtain ⟨i', h3, h4, h5⟩ := erase i p hp
        have := hst.sto i' p h m0 m h5 hps
        rwa [if_pos (h1 i' h4 h3)] at this
      · refine hst.mold h m (look_dropM_of (fun hin => ?_) hm)
        unfold stOk at hso
        simp only [Bool.and_eq_true] at hso
        obtain ⟨p, hp, he⟩ := List.any_eq_true.1 (List.all_eq_true.1 hso.2 h hin)
        cases hps : p.st with
        | none => rw [hps] at he; cases he
        | some x =>
          obtain ⟨h', m0, m1⟩ := x
          rw [hps] at he
          obtain ⟨i, hi⟩ := List.getElem?_of_mem hp
          have hif : i ≠ f := fun e => by subst e; rw [hpf] at hi; cases hi; rw [hpfs] at hps; cases hps
          exact hns p (erase2 i p hif hi) h' m0 m1 hps (Nat.eq_of_beq_eq_true he)
  have hrd : ∀ (L : Array Bool) (i : Nat), L.size = ops.size → i ∈ Region.ready .any ops L → i < ops.size ∧ L.getD i false = false ∧ ∀ o, ops[i]? = some o → ∀ e, e ∈ o.after → Region.binds .any e = true → L.getD e.on false = true := by
    intro L i hL hi
    unfold Region.ready at hi
    rw [List.mem_filter] at hi
    obtain ⟨h1, h2⟩ := hi
    rw [List.mem_range] at h1
    simp only [Bool.and_eq_true, Bool.not_eq_true'] at h2
    obtain ⟨h2, h3⟩ := h2
    refine ⟨h1, ?_, fun o ho e he hb => ?_⟩
    · simpa [Array.getD_eq_getD_getElem?, Array.getElem?_eq_getElem (by omega : i < L.size)] using h2
    · simp only [ho, Option.map_some, Option.getD_some] at h3
      have := Array.all_eq_true'.1 h3 e he
      simpa [hb] using this
  have hnone : ∀ (L : Array Bool), L.size = ops.size → Region.ready .any ops L = [] → ∀ i, i < ops.size → L.getD i false = true := by
    intro L hL hr i
    induction i using Nat.strongRecOn with
    | _ i ih =>
      intro hi
      cases hl : L.getD i false with
      | true => rfl
      | false =>
        exfalso
        obtain ⟨o, ho⟩ := hops i hi
        have : i ∈ Region.ready .any ops L := by
          unfold Region.ready
          rw [List.mem_filter]
          refine ⟨List.mem_range.2 hi, ?_⟩
          simp only [Bool.and_eq_true, Bool.not_eq_true']
          refine ⟨by simpa [Array.getD_eq_getD_getElem?, Array.getElem?_eq_getElem (by omega : i < L.size)] using hl, ?_⟩
          simp only [ho, Option.map_some, Option.getD_some, Array.all_eq_true', Bool.or_eq_true, Bool.not_eq_true']
          intro e he
          by_cases hb : Region.binds .any e = true
          · exact .inr (ih e.on ((hchk i o ho).1 e he hb) (by have := (hchk i o ho).1 e he hb; omega))
          · exact .inl (by simpa using hb)
        rw [hr] at this; cases this
  have hcl' : ∀ (L : Array Bool) (i : Nat), L.size = ops.size → i < ops.size → (∀ i, L.getD i false = true → ∀ o, ops[i]? = some o → ∀ e, e ∈ o.after → Region.binds .any e = true → L.getD e.on false = true) → (∀ o, ops[i]? = some o → ∀ e, e ∈ o.after → Region.binds .any e = true → L.getD e.on false = true) →
      ∀ j, (L.setIfInBounds i true).getD j false = true → ∀ o, ops[j]? = some o → ∀ e, e ∈ o.after → Region.binds .any e = true → (L.setIfInBounds i true).getD e.on false = true := by
    intro L i hL hi hcl hr j hj o ho e he hb
    rw [getD_set (by omega)] at hj ⊢
    split
    · rfl
    · by_cases hji : j = i
      · subst hji; exact hr o ho e he hb
      · rw [if_neg hji] at hj; exact hcl j hj o ho e he hb
  have hcount : ∀ (L : Array Bool) (i n : Nat), L.size = ops.size → i < ops.size → L.getD i false = false → ((List.range ops.size).filter fun i => !L.getD i false).length ≤ n + 1 → ((List.range ops.size).filter fun j => !(L.setIfInBounds i true).getD j false).length ≤ n := by
    intro L i n hL hi hl hc
    have : ((List.range ops.size).filter fun j => !(L.setIfInBounds i true).getD j false) = ((List.range ops.size).filter fun j => !L.getD j false).filter (fun j => j != i) := by
      rw [List.filter_filter]
      apply List.filter_congr
      intro j _
      rw [getD_set (by omega)]
      by_cases h : j = i <;> simp [h]
    rw [this]
    have hlt : (((List.range ops.size).filter fun j => !L.getD j false).filter (fun j => j != i)).length < ((List.range ops.size).filter fun j => !L.getD j false).length := by
      rw [List.length_filter_lt_length_iff_exists]
      exact ⟨i, List.mem_filter.2 ⟨List.mem_range.2 hi, by rw [hl]; rfl⟩, by simp⟩
    omega
  intro fuel
  induction fuel with
  | zero =>
    intro L a w hL hf hc hcl hJ
    have hall : ∀ i, i < ops.size → L.getD i false = true := fun i hi => by
      cases hl : L.getD i false with
      | true => rfl
      | false => exact absurd rfl (hf i hi hl)
    refine ⟨?_, ?_⟩
    · rw [List.eq_nil_iff_forall_not_mem]
      intro i hi
      obtain ⟨h1, h2, _⟩ := hrd L i hL hi
      rw [hall i h1] at h2; cases h2
    · rcases hJ with ⟨O, H, hst, htail⟩ | ⟨i0, h1, h2, h3, h4⟩ | ⟨h3, _⟩
      · have := htail k (Nat.le_refl _); rw [hall k hkn] at this; cases this
      · have : i0 = ops.size := by
          rcases Nat.lt_or_ge i0 ops.size with h | h
          · have := (h2 i0 h).1 (hall i0 h); omega
          · omega
        rw [List.drop_eq_nil_of_le (by simp; omega)] at h4
        exact h4
      · exact absurd rfl ((h3 f (by omega)).1 (hall f (by omega))).2
  | succ fuel ih =>
    intro L a w hL hf hc hcl hJ
    have next : ∀ (i : Nat) (a' : Act) (w' : World), i < ops.size → L.getD i false = false → (∀ o, ops[i]? = some o → ∀ e, e ∈ o.after → Region.binds .any e = true → L.getD e.on false = true) →
        ((∃ O H, PSt N w0 O0 e0 hs M0 ps (L.setIfInBounds i true) O H a' w' ∧ ∀ j, k ≤ j → (L.setIfInBounds i true).getD j false = false) ∨ (∃ i0, k ≤ i0 ∧ (∀ j, j < ops.size → ((L.setIfInBounds i true).getD j false = true ↔ j < i0)) ∧ i0 ≤ ops.size ∧ wpList P ops Q (ops.toList.drop i0) a' w') ∨ ((∀ j, j < ops.size → ((L.setIfInBounds i true).getD j false = true ↔ (j < k + 1 ∧ j ≠ f))) ∧ wpList P ops Q (of :: ops.toList.drop (k + 1)) a' w')) →
        wpAny P .any ops Q fuel (L.setIfInBounds i true) a' w' := by
      intro i a' w' hi hl hr hJ'
      have hcc := hcount L i fuel hL hi hl hc
      refine ih _ a' w' (by simpa using hL) (fun j hj hlj h0 => ?_) hcc (hcl' L i hL hi hcl hr) hJ'
      subst h0
      have : ((List.range ops.size).filter fun j => !(L.setIfInBounds i true).getD j false) = [] := List.eq_nil_of_length_eq_zero (by omega)
      have hm : j ∈ ((List.range ops.size).filter fun j => !(L.setIfInBounds i true).getD j false) := List.mem_filter.2 ⟨List.mem_range.2 hj, by rw [hlj]; rfl⟩
      rw [this] at hm; cases hm
    -- the tail
    have tail : ∀ (i0 : Nat), k ≤ i0 → (∀ i, i < ops.size → (L.getD i false = true ↔ i < i0)) → i0 ≤ ops.size → wpList P ops Q (ops.toList.drop i0) a w → ∀ i, i ∈ Region.ready .any ops L → wpOp P ops Q i (wpAny P .any ops Q fuel (L.setIfInBounds i true)) a w := by
      intro i0 h1 h2 h3 h4 i hi
      obtain ⟨hi1, hi2, hi3⟩ := hrd L i hL hi
      obtain ⟨o, ho⟩ := hops i hi1
      have hge : i0 ≤ i := by
        rcases Nat.lt_or_ge i i0 with h | h
        · have := (h2 i hi1).2 h; rw [hi2] at this; cases this
        · exact h
      have hall : ∀ j, j < i → L.getD j false = true := fun j hj => by
        by_cases hjf : j = f
        · rw [hjf]; exact (h2 f (by omega)).2 (by omega)
        · exact prec_closed hcl 9 i j ((hchk i o ho).2 (by omega) j hj (fun h => hjf h.2)) hi3
      have hii : i = i0 := by
        rcases Nat.lt_or_ge i0 i with h | h
        · have := (h2 i0 (by omega)).1 (hall i0 h); omega
        · omega
      subst hii
      have hd : ops.toList.drop i = o :: ops.toList.drop (i + 1) := by
        rw [List.drop_eq_getElem_cons (by simpa using hi1)]
        congr 1
        have := (Array.getElem?_eq_some_iff.1 ho).2
        simpa using this
      rw [hd] at h4
      have hK : ∀ a' w', wpList P ops Q (ops.toList.drop (i + 1)) a' w' → wpAny P .any ops Q fuel (L.setIfInBounds i true) a' w' := fun a' w' hw' =>
        next i a' w' hi1 hi2 hi3 (.inr (.inl ⟨i + 1, by omega, fun j hj => by
          rw [getD_set (by omega)]
          by_cases hji : j = i
          · simp [hji]
          · rw [if_neg hji, h2 j hj]; omega, by omega, hw'⟩))
      unfold wpOp
      simp only [ho]
      simp only [wpList] at h4
      split
      · rename_i hw
        rw [if_pos hw] at h4
        exact h4.imp (Oper.wp_mono hK) id
      · rename_i hw
        rw [if_neg hw] at h4
        exact hK _ _ h4
    refine ⟨fun hr => ?_, fun i hi => ?_⟩
    · have hall := hnone L hL hr
      rcases hJ with ⟨O, H, hst, htail⟩ | ⟨i0, h1, h2, h3, h4⟩ | ⟨h3, _⟩
      · have := htail k (Nat.le_refl _); rw [hall k hkn] at this; cases this
      · have : i0 = ops.size := by
          rcases Nat.lt_or_ge i0 ops.size with h | h
          · have := (h2 i0 h).1 (hall i0 h); omega
          · omega
        rw [List.drop_eq_nil_of_le (by simp; omega)] at h4
        exact h4
      · exact absurd rfl ((h3 f (by omega)).1 (hall f (by omega))).2
    · obtain ⟨hi1, hi2, hi3⟩ := hrd L i hL hi
      obtain ⟨o, ho⟩ := hops i hi1
      rcases hJ with ⟨O, H, hst, htail⟩ | ⟨i0, h1, h2, h3, h4⟩ | ⟨h3, h4⟩
      · rcases Nat.lt_or_ge i k with hik | hik
        · refine PSt.step hpw hk (parOkL_hd hok) hh hso hL hcl hst hik ho (hi3 o ho) hi2 hN _ fun O' H' a' w' hst' => ?_
          refine next i a' w' hi1 hi2 hi3 (.inl ⟨O', H', hst', fun j hj => ?_⟩)
          rw [getD_set (by omega), if_neg (by omega)]
          exact htail j hj
        · have hik' : i = k := by
            rcases Nat.lt_or_ge k i with h | h
            · have := prec_closed hcl 9 i k ((hchk i o ho).2 hik k h (fun hh => by omega)) hi3
              rw [htail k (Nat.le_refl _)] at this; cases this
            · omega
          subst hik'
          have hall : ∀ j, j < i → j ≠ f → L.getD j false = true := fun j hj hjf => prec_closed hcl 9 i j ((hchk i o ho).2 hik j hj (fun h => hjf h.2)) hi3
          by_cases hfL : L.getD f false = true
          · obtain ⟨t1, t2⟩ := turn L a w hL (fun j hj => by
              by_cases hjf : j = f
              · rw [hjf]; exact hfL
              · exact hall j hj hjf) htail ⟨O, H, hst⟩
            exact tail i (Nat.le_refl _) t1 hk t2 i hi
          · have hfF : L.getD f false = false := by simpa using hfL
            have h4 := turnL L a w hL hall ⟨O, H, hst⟩
            rw [hokk] at ho
            cases ho
            have hK : ∀ a' w', wpList P ops Q (of :: ops.toList.drop (i + 1)) a' w' → wpAny P .any ops Q fuel (L.setIfInBounds i true) a' w' := fun a' w' hw' =>
              next i a' w' hi1 hi2 hi3 (.inr (.inr ⟨fun j hj => by
                rw [getD_set (by omega)]
                by_cases hji : j = i
                · simp [hji]; omega
                · rw [if_neg hji]
                  by_cases hjf : j = f
                  · subst hjf; rw [hfF]; simp
                  · rcases Nat.lt_or_ge j i with h | h
                    · rw [hall j h hjf]; simp; omega
                    · rw [htail j h]; simp; omega, hw'⟩))
            unfold wpOp
            simp only [hokk]
            unfold wpList at h4
            split
            · rename_i hw
              rw [if_pos hw] at h4
              exact h4.imp (Oper.wp_mono hK) id
            · rename_i hw
              rw [if_neg hw] at h4
              exact hK _ _ h4
      · exact tail i0 h1 h2 h3 h4 i hi
      · have hif : i = f := by
          refine Decidable.byContradiction fun hne => ?_
          have h5 : ¬ i < k + 1 := fun h => by have := (h3 i hi1).2 ⟨h, hne⟩; rw [hi2] at this; cases this
          have h6 := prec_closed hcl 9 i f ((hchk i o ho).2 (by omega) f (by omega) (fun h => by omega)) hi3
          exact absurd rfl ((h3 f (by omega)).1 h6).2
        subst hif
        rw [hof] at ho
        cases ho
        have hK : ∀ a' w', wpList P ops Q (ops.toList.drop (k + 1)) a' w' → wpAny P .any ops Q fuel (L.setIfInBounds i true) a' w' := fun a' w' hw' =>
          next i a' w' hi1 hi2 hi3 (.inr (.inl ⟨k + 1, by omega, fun j hj => by
            rw [getD_set (by omega)]
            by_cases hji : j = i
            · simp [hji]; omega
            · rw [if_neg hji, h3 j hj]; omega, by omega, hw'⟩))
        unfold wpOp
        simp only [hof]
        unfold wpList at h4
        split
        · rename_i hw
          rw [if_pos hw] at h4
          exact h4.imp (Oper.wp_mono hK) id
        · rename_i hw
          rw [if_neg hw] at h4
          exact hK _ _ h4

theorem Tr.parL {id k f : Nat} {ps : List PO} {pf : PO} {ok of : Oper} (hm : P.follows .mixedOrders = true) (hpw : PW P w0.heap.size ops hs M0 (ops.toList.take k) ps e0) (hk : k ≤ ops.size) (hok : parOkL ops k f = true) (hh : handOk e0 M0 ps = true) (hso : stOk hs ps = true) (hN : ps.all (fun p => !p.ds || decide (p.d < N)) = true)
    (hpf : ps[f]? = some pf) (hpfs : pf.st = none) (hpfm : pf.mo = none) (hpfd : pf.ds = true) (hokk : ops[k]? = some ok) (hof : ops[f]? = some of)
    (ht : TrOps P N w0 O0 ops Q (finE e0 ps) (finM M0 ps) (ops.toList.drop k)) (htl : TrOps P N w0 O0 ops Q (finE (dropE pf.d e0) (ps.eraseIdx f)) (finM M0 (ps.eraseIdx f)) (ok :: of :: ops.toList.drop (k + 1))) : Tr P N w0 O0 e0 M0 (.region id ops true) Q := by
  intro O H a w hst
  have memD : ∀ h m, look M0 h = some m → MHold O H w0.heap.size w.drew h m := fun h m hm => MHold.mono (w := w) (w' := w.drew) (hb := none) (hh := none) (O := O) (O' := O) (H := H) (H' := H) ⟨fun _ _ => rfl, fun _ _ _ => rfl, fun _ _ => rfl⟩ (hst.mem h m hm) (by simp) (by simp) 0 (fun h he => by cases he) (.inl rfl)
  refine wp_region_any hm (par_late hpw hk hok hh hso (fun p hp hps => by have := List.all_eq_true.1 hN p hp; rw [hps] at this; simpa using this) hpf hpfs hpfm hpfd hokk hof ht htl ops.size _ a _ (by simp) (fun i hi _ => by omega) (Nat.le_trans (List.length_filter_le _ _) (by simp)) (fun i hi => ?_) (.inl ⟨O, H, ?_, fun i _ => ?_⟩))
  · simp only [Array.getD_eq_getD_getElem?, Array.getElem?_replicate] at hi
    split at hi <;> simp at hi
  · refine ⟨hst.df, hst.sz, hst.bl.drew, hst.lab, fun n s hs _ => (let ⟨x, hx, hr⟩ := hst.slots n s hs; ⟨x, hx, RepS.keeps (w := w) (w' := w.drew) (O := O) (fun b _ h => ⟨h, rfl⟩) hr⟩), fun i p _ _ hi => ?_, fun h m hm => memD h m (look_dropM hm).1, fun i p h m _ hi => ?_, fun i p h m m' hp hps => ?_⟩
    · simp only [Array.getD_eq_getD_getElem?, Array.getElem?_replicate] at hi
      split at hi <;> simp at hi
    · simp only [Array.getD_eq_getD_getElem?, Array.getElem?_replicate] at hi
      split at hi <;> simp at hi
    · have hF : (Array.replicate ops.size false).getD i false = false := by
        simp only [Array.getD_eq_getD_getElem?, Array.getElem?_replicate]
        split <;> simp
      rw [if_neg (by rw [hF]; simp)]
      obtain ⟨o, ho⟩ : ∃ o, (ops.toList.take k)[i]? = some o := ⟨(ops.toList.take k)[i]'(by rw [hpw.get.1]; exact (List.getElem?_eq_some_iff.1 hp).1), List.getElem?_eq_getElem _⟩
      have hs1 := hpw.get.2 i o p ho hp
      simp only [PStep, hps] at hs1
      exact memD h m hs1.2.2.2.1
  · simp only [Array.getD_eq_getD_getElem?, Array.getElem?_replicate]
    split <;> simp

theorem PC.doneL {id : Nat} {ps : List PO} {e : Env} {rest : List Oper} (k f : Nat) {pf : PO} {ok of : Oper} (hm : P.follows .mixedOrders = true) (hkl : ps.length = k) (hok : parOkL ops k f = true) (hh : handOk e0 M0 ps = true) (hso : stOk hs ps = true) (hN : ps.all (fun p => !p.ds || decide (p.d < N)) = true)
    (hpf : ps[f]? = some pf) (hpfs : pf.st = none) (hpfm : pf.mo = none) (hpfd : pf.ds = true) (hof : ops[f]? = some of)
    (ht : TrOps P N w0 O0 ops Q e (finM M0 ps) (ok :: rest)) (htl : TrOps P N w0 O0 ops Q (finE (dropE pf.d e0) (ps.eraseIdx f)) (finM M0 (ps.eraseIdx f)) (ok :: of :: rest)) : PC P N w0 O0 id ops Q hs e0 M0 ps e (ok :: rest) := by
  intro pre hops hpw he
  subst he
  subst hkl
  have hlen : pre.length = ps.length := hpw.get.1
  have hk : ps.length ≤ ops.size := by
    have : ops.size = (pre ++ ok :: rest).length := by rw [← hops]; simp
    rw [this, ← hlen]; simp
  have hd : ops.toList.drop (ps.length + 1) = rest := by rw [hops, ← hlen, List.drop_append]; simp
  have hokk : ops[ps.length]? = some ok := by
    rw [← Array.getElem?_toList, hops, ← hlen, List.getElem?_append_right (Nat.le_refl _)]; simp
  refine Tr.parL (k := ps.length) (f := f) (ps := ps) (pf := pf) (ok := ok) (of := of) hm ?_ hk hok hh hso hN hpf hpfs hpfm hpfd hokk hof ?_ ?_
  · rw [hops, ← hlen, List.take_left]; exact hpw
  · rw [hops, ← hlen, List.drop_left]; exact ht
  · rw [hd]; exact htl

theorem PC.doneLn {id : Nat} {ps : List PO} {e : Env} {rest : List Oper} (k f h1 : Nat) (m1 : Mo) (h2 : Nat) (m2 : Mo) {pf : PO} {ok of : Oper} {e2 : Env} (hm : P.follows .mixedOrders = true) (hkl : ps.length = k) (hok : parOkL ops k f = true) (hh : handOk e0 M0 ps = true) (hso : stOk hs ps = true) (hN : ps.all (fun p => !p.ds || decide (p.d < N)) = true)
    (hpf : ps[f]? = some pf) (hpfs : pf.st = none) (hpfm : pf.mo = none) (hpfd : pf.ds = true) (hof : ops[f]? = some of) (_hd2 : DropR pf.d e e2) (he2 : finE (dropE pf.d e0) (ps.eraseIdx f) = e2) (hM1 : finM M0 ps = (h2, m2) :: (h1, m1) :: M0) (hM2 : finM M0 (ps.eraseIdx f) = (h2, m2) :: (h1, m1) :: M0)
    (ht : TrOps P N w0 O0 ops Q e ((h2, m2) :: (h1, m1) :: M0) (ok :: rest)) (htl : TrOps P N w0 O0 ops Q e2 ((h2, m2) :: (h1, m1) :: M0) (ok :: of :: rest)) : PC P N w0 O0 id ops Q hs e0 M0 ps e (ok :: rest) := by
  subst he2
  exact PC.doneL k f hm hkl hok hh hso hN hpf hpfs hpfm hpfd hof (by rw [hM1]; exact ht) (by rw [hM2]; exact htl)
end
end Go.Eng
