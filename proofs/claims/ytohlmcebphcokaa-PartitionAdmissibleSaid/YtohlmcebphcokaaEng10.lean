/- The engine, part 10: a region whose order is open, whole. -/
import Derived.Test.YtohlmcebphcokaaEng9
set_option linter.unusedSimpArgs false
set_option linter.unnecessarySimpa false
set_option linter.unusedVariables false
namespace Go.Eng
open Go.RowKit (Below)

section
variable {P : Program} {N : Nat} {w0 : World} {O0 : Nat → Nat} {ops : Array Oper} {Q : Post} {e0 : Env} {M0 : Mem} {hs : List Nat}

theorem OpSt.storeb {B : Nat} {o : Oper} {e : Env} {s : S} {t : TypeId} {x y : Operand} {h k : Nat} {cs ss : List S} {g : Bool} (ho : o.op = .store t x y) (hx : opS e x = some (.r h k)) (hy : opS e y = some s) (hs : s.cells = some ss)
    (ht : vsz P t = some (g, ss.length)) (hk : k + ss.length ≤ cs.length) : OpSt P B o e h (.box cs) (.box (cs.take k ++ ss ++ cs.drop (k + ss.length))) .u := by
  intro O H a w hBw hsl hm K hK
  have hr := hsl x (by simp [ho, Op.operands]) _ hx
  have hv := hsl y (by simp [ho, Op.operands]) _ hy
  obtain ⟨b, xs, T, hH, hB, hO, hb, hsz, hc⟩ := hm
  obtain ⟨v1, v2⟩ := hv.cells hs
  generalize hxa : a.eval x = xa at hr
  cases hr with
  | r h b' k hH' =>
    rw [hH] at hH'
    simp only [Value.pointer.injEq, Option.some.injEq, Addr.mk.injEq, and_true] at hH'
    subst hH'
    have h1 : ∀ z, z ∈ (a.eval y).cells.toList → z.oneCell' = true := by
      intro z hz
      obtain ⟨i, hi⟩ := List.getElem?_of_mem hz
      have hlt : i < ss.length := by rw [← v1]; have := (List.getElem?_eq_some_iff.1 hi).1; simpa using this
      obtain ⟨z', hz', _, ho'⟩ := v2 i _ (List.getElem?_eq_getElem hlt)
      have : z = z' := by simpa [hz'] using hi.symm
      rw [this]; exact ho'
    have hrun := run_storeVar ht (off := k) hb v1 (by rw [hsz]; omega) h1
    unfold Oper.wp
    simp only [execOp, ho, hxa, Instr.storeAt, Instr.sureAddr, Sem.run_bind, Sem.run_pure, Result.andThen_ok, hrun, Oper.upon_skip]
    refine hK _ _ (Keep.setRow hO) ((Below.setRow hB).mono (Nat.le_refl _)) ?_ (.u _)
    have hk' := Keep.setRow (O := O) (H := H) (w := w) (cs := (xs.toList.take k ++ (a.eval y).cells.toList ++ xs.toList.drop (k + ss.length)).toArray) hO
    refine ⟨b, _, T, hH, hB, hO, setRow_heap w b xs _ T _ hb, by simp; omega, fun i s' hi => ?_⟩
    by_cases h1 : i < k
    · rw [List.append_assoc, List.getElem?_append_left (by simp; omega), List.getElem?_take_of_lt h1] at hi
      obtain ⟨z, hz, hr, ho'⟩ := hc i s' hi
      refine ⟨z, ?_, hr.mono0 hk', ho'⟩
      simp only [List.getElem?_toArray]
      rw [List.append_assoc, List.getElem?_append_left (by simp; omega), List.getElem?_take_of_lt h1]
      simpa using hz
    · by_cases h2 : i < k + ss.length
      · rw [List.append_assoc, List.getElem?_append_right (by simp; omega), List.getElem?_append_left (by simp; omega)] at hi
        obtain ⟨z, hz, hr, ho'⟩ := v2 _ s' hi
        refine ⟨z, ?_, hr.mono0 hk', ho'⟩
        simp only [List.getElem?_toArray]
        rw [List.append_assoc, List.getElem?_append_right (by simp; omega), List.getElem?_append_left (by simp; omega)]
        simp only [List.length_take, Array.length_toList] at hz ⊢
        rw [Nat.min_eq_left (by omega)] at hz ⊢
        simpa using hz
      · rw [List.getElem?_append_right (by simp; omega), List.getElem?_drop] at hi
        have e1 : k + ss.length + (i - (List.take k cs ++ ss).length) = i := by simp; omega
        rw [e1] at hi
        obtain ⟨z, hz, hr, ho'⟩ := hc i s' hi
        refine ⟨z, ?_, hr.mono0 hk', ho'⟩
        simp only [List.getElem?_toArray]
        rw [List.getElem?_append_right (by simp; omega), List.getElem?_drop]
        have e2 : k + ss.length + (i - (List.take k xs.toList ++ (a.eval y).cells.toList).length) = i := by simp; omega
        rw [e2]
        simpa using hz

/-- Every order of the open part is served. -/
theorem par_any {k : Nat} {ps : List PO} (hpw : PW P w0.heap.size ops hs M0 (ops.toList.take k) ps e0) (hk : k ≤ ops.size) (hok : parOk ops k = true) (hh : handOk e0 M0 ps = true) (hso : stOk hs ps = true) (hN : ∀ p, p ∈ ps → p.ds = true → p.d < N)
    (ht : TrOps P N w0 O0 ops Q (finE e0 ps) (finM M0 ps) (ops.toList.drop k)) :
    ∀ (fuel : Nat) (L : Array Bool) (a : Act) (w : World), L.size = ops.size → (∀ i, i < ops.size → L.getD i false = false → fuel ≠ 0) → ((List.range ops.size).filter fun i => !L.getD i false).length ≤ fuel →
      (∀ i, L.getD i false = true → ∀ o, ops[i]? = some o → ∀ e, e ∈ o.after → Region.binds .any e = true → L.getD e.on false = true) →
      ((∃ O H, PSt N w0 O0 e0 hs M0 ps L O H a w ∧ ∀ i, k ≤ i → L.getD i false = false) ∨ (∃ i0, k ≤ i0 ∧ (∀ i, i < ops.size → (L.getD i false = true ↔ i < i0)) ∧ i0 ≤ ops.size ∧ wpList P ops Q (ops.toList.drop i0) a w)) →
      wpAny P .any ops Q fuel L a w := by
  have hops : ∀ i, i < ops.size → ∃ o, ops[i]? = some o := fun i hi => ⟨ops[i], Array.getElem?_eq_getElem hi⟩
  have hchk : ∀ i o, ops[i]? = some o → (∀ e, e ∈ o.after → Region.binds .any e = true → e.on < i) ∧ (k ≤ i → ∀ j, j < i → prec ops 9 i j = true) := by
    intro i o ho
    have hi : i < ops.size := (Array.getElem?_eq_some_iff.1 ho).1
    unfold parOk at hok
    simp only [List.all_eq_true, List.mem_range] at hok
    have := hok i hi
    simp only [ho, Bool.and_eq_true] at this
    obtain ⟨h1, h2⟩ := this
    refine ⟨fun e he hb => ?_, fun hki j hj => ?_⟩
    · have := Array.all_eq_true'.1 h1 e he
      simp only [hb, Bool.not_true, Bool.false_or, decide_eq_true_eq] at this
      exact this
    · rw [if_neg (by omega)] at h2
      exact List.all_eq_true.1 h2 j (List.mem_range.2 hj)
  -- the open part is through: what follows goes in the order of the text
  have turn : ∀ (L : Array Bool) (a : Act) (w : World), L.size = ops.size → (∀ i, i < k → L.getD i false = true) → (∀ i, k ≤ i → L.getD i false = false) → (∃ O H, PSt N w0 O0 e0 hs M0 ps L O H a w) →
      (∀ i, i < ops.size → (L.getD i false = true ↔ i < k)) ∧ wpList P ops Q (ops.toList.drop k) a w := by
    rintro L a w hL h1 h2 ⟨O, H, hst⟩
    refine ⟨fun i hi => ⟨fun h => ?_, h1 i⟩, ht O H a w ⟨hst.df, hst.sz, hst.bl, hst.lab, fun n s hs => ?_, fun h m hm => ?_⟩⟩
    · rcases Nat.lt_or_ge i k with h' | h'
      · exact h'
      · rw [h2 i h'] at h; cases h
    · have hlen : ps.length = k := by have := hpw.get.1; rw [← this]; simp; omega
      rcases look_finE hs with ⟨i, p, hp, hps, rfl, rfl⟩ | ⟨h1', h2'⟩
      · exact hst.new i p hp hps (h1 i (by rw [← hlen]; exact (List.getElem?_eq_some_iff.1 hp).1))
      · exact hst.old n s h2' (fun j p hj hs he => absurd he (h1' p (List.mem_of_getElem? hj) hs))
    · have hlen : ps.length = k := by have := hpw.get.1; rw [← this]; simp; omega
      rcases look_finM hm with ⟨i, p, hp, hps, hmo⟩ | ⟨i, p, m0, hp, hps⟩ | ⟨hns, hm⟩
      · exact hst.mnew i p h m hp (h1 i (by rw [← hlen]; exact (List.getElem?_eq_some_iff.1 hp).1)) hps hmo
      · have := hst.sto i p h m0 m hp hps
        rwa [if_pos (h1 i (by rw [← hlen]; exact (List.getElem?_eq_some_iff.1 hp).1))] at this
      · refine hst.mold h m (look_dropM_of (fun hin => ?_) hm)
        unfold stOk at hso
        simp only [Bool.and_eq_true] at hso
        obtain ⟨p, hp, he⟩ := List.any_eq_true.1 (List.all_eq_true.1 hso.2 h hin)
        cases hps : p.st with
        | none => rw [hps] at he; cases he
        | some x =>
          obtain ⟨h', m0, m1⟩ := x
          rw [hps] at he
          exact hns p hp h' m0 m1 hps (Nat.eq_of_beq_eq_true he)
  have hrd : ∀ (L : Array Bool) (i : Nat), L.size = ops.size → i ∈ Region.ready .any ops L → i < ops.size ∧ L.getD i false = false ∧ ∀ o, ops[i]? = some o → ∀ e, e ∈ o.after → Region.binds .any e = true → L.getD e.on false = true := by
    intro L i hL hi
    unfold Region.ready at hi
    rw [List.mem_filter] at hi
    obtain ⟨h1, h2⟩ := hi
    rw [List.mem_range] at h1
    simp only [Bool.and_eq_true, Bool.not_eq_true'] at h2
    obtain ⟨h2, h3⟩ := h2
    refine ⟨h1, ?_, fun o ho e he hb => ?_⟩
    · simpa [Array.getD_eq_getD_getElem?, Array.getElem?_eq_getElem (by omega : i < L.size)] using h2
    · simp only [ho, Option.map_some, Option.getD_some] at h3
      have := Array.all_eq_true'.1 h3 e he
      simpa [hb] using this
  have hnone : ∀ (L : Array Bool), L.size = ops.size → Region.ready .any ops L = [] → ∀ i, i < ops.size → L.getD i false = true := by
    intro L hL hr i
    induction i using Nat.strongRecOn with
    | _ i ih =>
      intro hi
      cases hl : L.getD i false with
      | true => rfl
      | false =>
        exfalso
        obtain ⟨o, ho⟩ := hops i hi
        have : i ∈ Region.ready .any ops L := by
          unfold Region.ready
          rw [List.mem_filter]
          refine ⟨List.mem_range.2 hi, ?_⟩
          simp only [Bool.and_eq_true, Bool.not_eq_true']
          refine ⟨by simpa [Array.getD_eq_getD_getElem?, Array.getElem?_eq_getElem (by omega : i < L.size)] using hl, ?_⟩
          simp only [ho, Option.map_some, Option.getD_some, Array.all_eq_true', Bool.or_eq_true, Bool.not_eq_true']
          intro e he
          by_cases hb : Region.binds .any e = true
          · exact .inr (ih e.on ((hchk i o ho).1 e he hb) (by have := (hchk i o ho).1 e he hb; omega))
          · exact .inl (by simpa using hb)
        rw [hr] at this; cases this
  have hcl' : ∀ (L : Array Bool) (i : Nat), L.size = ops.size → i < ops.size → (∀ i, L.getD i false = true → ∀ o, ops[i]? = some o → ∀ e, e ∈ o.after → Region.binds .any e = true → L.getD e.on false = true) → (∀ o, ops[i]? = some o → ∀ e, e ∈ o.after → Region.binds .any e = true → L.getD e.on false = true) →
      ∀ j, (L.setIfInBounds i true).getD j false = true → ∀ o, ops[j]? = some o → ∀ e, e ∈ o.after → Region.binds .any e = true → (L.setIfInBounds i true).getD e.on false = true := by
    intro L i hL hi hcl hr j hj o ho e he hb
    rw [getD_set (by omega)] at hj ⊢
    split
    · rfl
    · by_cases hji : j = i
      · subst hji; exact hr o ho e he hb
      · rw [if_neg hji] at hj; exact hcl j hj o ho e he hb
  have hcount : ∀ (L : Array Bool) (i n : Nat), L.size = ops.size → i < ops.size → L.getD i false = false → ((List.range ops.size).filter fun i => !L.getD i false).length ≤ n + 1 → ((List.range ops.size).filter fun j => !(L.setIfInBounds i true).getD j false).length ≤ n := by
    intro L i n hL hi hl hc
    have : ((List.range ops.size).filter fun j => !(L.setIfInBounds i true).getD j false) = ((List.range ops.size).filter fun j => !L.getD j false).filter (fun j => j != i) := by
      rw [List.filter_filter]
      apply List.filter_congr
      intro j _
      rw [getD_set (by omega)]
      by_cases h : j = i <;> simp [h]
    rw [this]
    have hlt : (((List.range ops.size).filter fun j => !L.getD j false).filter (fun j => j != i)).length < ((List.range ops.size).filter fun j => !L.getD j false).length := by
      rw [List.length_filter_lt_length_iff_exists]
      exact ⟨i, List.mem_filter.2 ⟨List.mem_range.2 hi, by rw [hl]; rfl⟩, by simp⟩
    omega
  intro fuel
  induction fuel with
  | zero =>
    intro L a w hL hf hc hcl hJ
    have hall : ∀ i, i < ops.size → L.getD i false = true := fun i hi => by
      cases hl : L.getD i false with
      | true => rfl
      | false => exact absurd rfl (hf i hi hl)
    refine ⟨?_, ?_⟩
    · rw [List.eq_nil_iff_forall_not_mem]
      intro i hi
      obtain ⟨h1, h2, _⟩ := hrd L i hL hi
      rw [hall i h1] at h2; cases h2
    · rcases hJ with ⟨O, H, hst, htail⟩ | ⟨i0, h1, h2, h3, h4⟩
      · have hkn : k = ops.size := by
          rcases Nat.lt_or_ge k ops.size with h | h
          · have := htail k (Nat.le_refl _); rw [hall k h] at this; cases this
          · omega
        have := (turn L a w hL (fun i hi => hall i (by omega)) htail ⟨O, H, hst⟩).2
        rw [List.drop_eq_nil_of_le (by simp; omega)] at this
        exact this
      · have : i0 = ops.size := by
          rcases Nat.lt_or_ge i0 ops.size with h | h
          · have := (h2 i0 h).1 (hall i0 h); omega
          · omega
        rw [List.drop_eq_nil_of_le (by simp; omega)] at h4
        exact h4
  | succ fuel ih =>
    intro L a w hL hf hc hcl hJ
    have next : ∀ (i : Nat) (a' : Act) (w' : World), i < ops.size → L.getD i false = false → (∀ o, ops[i]? = some o → ∀ e, e ∈ o.after → Region.binds .any e = true → L.getD e.on false = true) →
        ((∃ O H, PSt N w0 O0 e0 hs M0 ps (L.setIfInBounds i true) O H a' w' ∧ ∀ j, k ≤ j → (L.setIfInBounds i true).getD j false = false) ∨ (∃ i0, k ≤ i0 ∧ (∀ j, j < ops.size → ((L.setIfInBounds i true).getD j false = true ↔ j < i0)) ∧ i0 ≤ ops.size ∧ wpList P ops Q (ops.toList.drop i0) a' w')) →
        wpAny P .any ops Q fuel (L.setIfInBounds i true) a' w' := by
      intro i a' w' hi hl hr hJ'
      have hcc := hcount L i fuel hL hi hl hc
      refine ih _ a' w' (by simpa using hL) (fun j hj hlj h0 => ?_) hcc (hcl' L i hL hi hcl hr) hJ'
      subst h0
      have : ((List.range ops.size).filter fun j => !(L.setIfInBounds i true).getD j false) = [] := List.eq_nil_of_length_eq_zero (by omega)
      have hm : j ∈ ((List.range ops.size).filter fun j => !(L.setIfInBounds i true).getD j false) := List.mem_filter.2 ⟨List.mem_range.2 hj, by rw [hlj]; rfl⟩
      rw [this] at hm; cases hm
    -- the tail
    have tail : ∀ (i0 : Nat), k ≤ i0 → (∀ i, i < ops.size → (L.getD i false = true ↔ i < i0)) → i0 ≤ ops.size → wpList P ops Q (ops.toList.drop i0) a w → ∀ i, i ∈ Region.ready .any ops L → wpOp P ops Q i (wpAny P .any ops Q fuel (L.setIfInBounds i true)) a w := by
      intro i0 h1 h2 h3 h4 i hi
      obtain ⟨hi1, hi2, hi3⟩ := hrd L i hL hi
      obtain ⟨o, ho⟩ := hops i hi1
      have hge : i0 ≤ i := by
        rcases Nat.lt_or_ge i i0 with h | h
        · have := (h2 i hi1).2 h; rw [hi2] at this; cases this
        · exact h
      have hall : ∀ j, j < i → L.getD j false = true := fun j hj => prec_closed hcl 9 i j ((hchk i o ho).2 (by omega) j hj) hi3
      have hii : i = i0 := by
        rcases Nat.lt_or_ge i0 i with h | h
        · have := (h2 i0 (by omega)).1 (hall i0 h); omega
        · omega
      subst hii
      have hd : ops.toList.drop i = o :: ops.toList.drop (i + 1) := by
        rw [List.drop_eq_getElem_cons (by simpa using hi1)]
        congr 1
        have := (Array.getElem?_eq_some_iff.1 ho).2
        simpa using this
      rw [hd] at h4
      have hK : ∀ a' w', wpList P ops Q (ops.toList.drop (i + 1)) a' w' → wpAny P .any ops Q fuel (L.setIfInBounds i true) a' w' := fun a' w' hw' =>
        next i a' w' hi1 hi2 hi3 (.inr ⟨i + 1, by omega, fun j hj => by
          rw [getD_set (by omega)]
          by_cases hji : j = i
          · simp [hji]
          · rw [if_neg hji, h2 j hj]; omega, by omega, hw'⟩)
      unfold wpOp
      simp only [ho]
      simp only [wpList] at h4
      split
      · rename_i hw
        rw [if_pos hw] at h4
        exact h4.imp (Oper.wp_mono hK) id
      · rename_i hw
        rw [if_neg hw] at h4
        exact hK _ _ h4
    refine ⟨fun hr => ?_, fun i hi => ?_⟩
    · have hall := hnone L hL hr
      rcases hJ with ⟨O, H, hst, htail⟩ | ⟨i0, h1, h2, h3, h4⟩
      · have hkn : k = ops.size := by
          rcases Nat.lt_or_ge k ops.size with h | h
          · have := htail k (Nat.le_refl _); rw [hall k h] at this; cases this
          · omega
        have := (turn L a w hL (fun i hi => hall i (by omega)) htail ⟨O, H, hst⟩).2
        rw [List.drop_eq_nil_of_le (by simp; omega)] at this
        exact this
      · have : i0 = ops.size := by
          rcases Nat.lt_or_ge i0 ops.size with h | h
          · have := (h2 i0 h).1 (hall i0 h); omega
          · omega
        rw [List.drop_eq_nil_of_le (by simp; omega)] at h4
        exact h4
    · obtain ⟨hi1, hi2, hi3⟩ := hrd L i hL hi
      obtain ⟨o, ho⟩ := hops i hi1
      rcases hJ with ⟨O, H, hst, htail⟩ | ⟨i0, h1, h2, h3, h4⟩
      · rcases Nat.lt_or_ge i k with hik | hik
        · refine PSt.step hpw hk (parOk_hd hok) hh hso hL hcl hst hik ho (hi3 o ho) hi2 hN _ fun O' H' a' w' hst' => ?_
          refine next i a' w' hi1 hi2 hi3 (.inl ⟨O', H', hst', fun j hj => ?_⟩)
          rw [getD_set (by omega), if_neg (by omega)]
          exact htail j hj
        · have hall : ∀ j, j < i → L.getD j false = true := fun j hj => prec_closed hcl 9 i j ((hchk i o ho).2 hik j hj) hi3
          obtain ⟨t1, t2⟩ := turn L a w hL (fun j hj => hall j (by omega)) htail ⟨O, H, hst⟩
          exact tail k (Nat.le_refl _) t1 hk t2 i hi
      · exact tail i0 h1 h2 h3 h4 i hi

/-- A region whose order is open: the first k operations by the lexical walk, the rest as ever. -/
theorem Tr.par {id k : Nat} {ps : List PO} (hm : P.follows .mixedOrders = true) (hpw : PW P w0.heap.size ops hs M0 (ops.toList.take k) ps e0) (hk : k ≤ ops.size) (hok : parOk ops k = true) (hh : handOk e0 M0 ps = true) (hso : stOk hs ps = true) (hN : ps.all (fun p => !p.ds || decide (p.d < N)) = true)
    (ht : TrOps P N w0 O0 ops Q (finE e0 ps) (finM M0 ps) (ops.toList.drop k)) : Tr P N w0 O0 e0 M0 (.region id ops true) Q := by
  intro O H a w hst
  have memD : ∀ h m, look M0 h = some m → MHold O H w0.heap.size w.drew h m := fun h m hm => MHold.mono (w := w) (w' := w.drew) (hb := none) (hh := none) (O := O) (O' := O) (H := H) (H' := H) ⟨fun _ _ => rfl, fun _ _ _ => rfl, fun _ _ => rfl⟩ (hst.mem h m hm) (by simp) (by simp) 0 (fun h he => by cases he) (.inl rfl)
  refine wp_region_any hm (par_any hpw hk hok hh hso (fun p hp hps => by have := List.all_eq_true.1 hN p hp; rw [hps] at this; simpa using this) ht ops.size _ a _ (by simp) (fun i hi _ => by omega) (Nat.le_trans (List.length_filter_le _ _) (by simp)) (fun i hi => ?_) (.inl ⟨O, H, ?_, fun i _ => ?_⟩))
  · simp only [Array.getD_eq_getD_getElem?, Array.getElem?_replicate] at hi
    split at hi <;> simp at hi
  · refine ⟨hst.df, hst.sz, hst.bl.drew, hst.lab, fun n s hs _ => (let ⟨x, hx, hr⟩ := hst.slots n s hs; ⟨x, hx, RepS.keeps (w := w) (w' := w.drew) (O := O) (fun b _ h => ⟨h, rfl⟩) hr⟩), fun i p _ _ hi => ?_, fun h m hm => memD h m (look_dropM hm).1, fun i p h m _ hi => ?_, fun i p h m m' hp hps => ?_⟩
    · simp only [Array.getD_eq_getD_getElem?, Array.getElem?_replicate] at hi
      split at hi <;> simp at hi
    · simp only [Array.getD_eq_getD_getElem?, Array.getElem?_replicate] at hi
      split at hi <;> simp at hi
    · have hF : (Array.replicate ops.size false).getD i false = false := by
        simp only [Array.getD_eq_getD_getElem?, Array.getElem?_replicate]
        split <;> simp
      rw [if_neg (by rw [hF]; simp)]
      obtain ⟨o, ho⟩ : ∃ o, (ops.toList.take k)[i]? = some o := ⟨(ops.toList.take k)[i]'(by rw [hpw.get.1]; exact (List.getElem?_eq_some_iff.1 hp).1), List.getElem?_eq_getElem _⟩
      have hs1 := hpw.get.2 i o p ho hp
      simp only [PStep, hps] at hs1
      exact memD h m hs1.2.2.2.1
  · simp only [Array.getD_eq_getD_getElem?, Array.getElem?_replicate]
    split <;> simp
end
end Go.Eng
