/- The engine, part 14: parts of slices; nil in a field; data weakened row by row. -/
import Derived.Test.YtohlmcebphcokaaEng13
set_option linter.unusedSimpArgs false
set_option linter.unnecessarySimpa false
set_option linter.unusedVariables false
namespace Go.Eng
open Go.RowKit (Below)

/-- A part of a slice that nobody writes. -/
theorem RepD.part {O : Nat → Nat} {w : World} {ad : Option Addr} {n c k lo hi : Nat} {rows : List (List D)} (h : RepD O w (.slice ad n c) (.s k rows)) (h1 : lo ≤ hi) (h2 : hi ≤ rows.length) :
    RepD O w (sliced ad lo hi c k) (.s k ((rows.take hi).drop lo)) := by
  cases h with
  | e a c k hm =>
    have : hi = 0 := by simpa using h2
    subst this
    have : lo = 0 := by omega
    subst this
    exact .e _ _ k (by omega)
  | s b off c k rows y hc hm hw hO hy hr =>
    have hl : ((rows.take hi).drop lo).length = hi - lo := by simp; omega
    have hget : ∀ (i : Nat) (r : List D), ((rows.take hi).drop lo)[i]? = some r → rows[lo + i]? = some r := by
      intro i r hi'
      rw [List.getElem?_drop, List.getElem?_take] at hi'
      split at hi'
      · exact hi'
      · cases hi'
    unfold sliced
    by_cases he : (rows.take hi).drop lo = []
    · rw [he] at hl ⊢
      have : hi - lo = 0 := by simpa using hl.symm
      rw [this]
      exact .e _ _ k (by omega)
    · have hlt : lo < hi := by
        refine Nat.lt_of_le_of_ne h1 fun e => he ?_
        subst e
        exact List.eq_nil_of_length_eq_zero (by rw [hl]; omega)
      rw [if_neg (by omega), ← hl]
      have e : Option.map (fun x : Addr => x.add (lo * k)) (some (⟨b, off, none⟩ : Addr)) = some ⟨b, off + lo * k, none⟩ := by simp [Addr.add_lit]
      rw [e]
      have hidx : ∀ i j : Nat, off + lo * k + (i * k + j) = off + ((lo + i) * k + j) := fun i j => by rw [Nat.add_mul]; omega
      refine .s b (off + lo * k) _ k _ (fun m => y (lo * k + m)) (by rw [hl]; omega) (by omega) (fun r hr' => hw r (List.mem_of_mem_take (List.mem_of_mem_drop hr'))) (fun i r j d hi' hj => hO (lo + i) r j d (hget i r hi') hj) (fun i r j d hi' hj => ?_) (fun i r j d hi' hj => ?_)
      · have := hy (lo + i) r j d (hget i r hi') hj
        rw [hidx]
        rw [this]
        congr 2
        rw [Nat.add_mul]; omega
      · have := hr (lo + i) r j d (hget i r hi') hj
        have e2 : lo * k + (i * k + j) = (lo + i) * k + j := by rw [Nat.add_mul]; omega
        show RepD O w (y (lo * k + (i * k + j))) d
        rw [e2]; exact this

section
variable {P : Program} {B : Nat} {o : Oper} {e : Env} {M : Mem} {s : S}
/-- x[:len(x):len(x)], at a list. -/
theorem OpSem.clipL {t k : Nat} {x h m : Operand} {α : Type} {l : List α} {f : α → List D} (ho : o.op = .slice t x none (some h) (some m)) (hx : opS e x = some (.d (.s k (l.map f)))) (hh : opS e h = some (.d (.v (.int .i64 l.length))))
    (hm : opS e m = some (.d (.v (.int .i64 l.length)))) (ht : esz P t = some k) : OpSem P B o e M (.c k (l.map f)) none :=
  OpSem.clip ho hx (by simpa using hh) (by simpa using hm) ht
/-- x[lo:] -/
theorem OpSem.sliceL {t k : Nat} {x l : Operand} {α : Type} {xs : List α} {f : α → List D} {kk : IntKind} {n : Int} (ho : o.op = .slice t x (some l) none none) (hx : opS e x = some (.d (.s k (xs.map f)))) (hl : opS e l = some (.d (.v (.int kk n))))
    (ht : esz P t = some k) (h0 : 0 ≤ n) (h1 : n ≤ xs.length) : OpSem P B o e M (.d (.s k ((xs.drop n.toNat).map f))) none :=
  .value fun O H a w hs _ => by
    have hx' := hs x (by simp [ho, Op.operands]) _ hx
    have hl' := hs l (by simp [ho, Op.operands]) _ hl
    generalize hv : a.eval x = v at hx'
    generalize hu : a.eval l = u at hl'
    cases hl' with
    | d _ _ hl' => cases hl' with
      | v _ => cases hx' with
        | d _ _ hx' =>
          obtain ⟨ad, c, hvv, hc, hcm⟩ := hx'.slice
          rw [hvv] at hv hx'
          have hp := hx'.part (lo := n.toNat) (hi := (xs.map f).length) (by simp; omega) (Nat.le_refl _)
          rw [List.take_length, ← List.map_drop] at hp
          refine ⟨_, ?_, .d _ _ hp⟩
          have := run_slice_l (P := P) w t ad (xs.map f).length c (esz_spec ht).1 kk n h0 (by simpa using h1)
          simp only [execOp, ho, hv, hu, Option.map_some, Option.map_none, Sem.run_bind, run_sliceAt_slice w t _ _ _ _ (esz_spec ht).1, this, run_sizeElem ht, Result.andThen_ok, Sem.run_pure]

/-- x[lo:hi] -/
theorem OpSem.sliceLH {t k : Nat} {x l h : Operand} {α : Type} {xs : List α} {f : α → List D} {kk kh : IntKind} {n m : Int} (ho : o.op = .slice t x (some l) (some h) none) (hx : opS e x = some (.d (.s k (xs.map f)))) (hl : opS e l = some (.d (.v (.int kk n)))) (hh : opS e h = some (.d (.v (.int kh m))))
    (ht : esz P t = some k) (h0 : 0 ≤ n) (h1 : n ≤ m) (h2 : m ≤ xs.length) : OpSem P B o e M (.d (.s k (((xs.take m.toNat).drop n.toNat).map f))) none :=
  .value fun O H a w hs _ => by
    have hx' := hs x (by simp [ho, Op.operands]) _ hx
    have hl' := hs l (by simp [ho, Op.operands]) _ hl
    have hh' := hs h (by simp [ho, Op.operands]) _ hh
    generalize hv : a.eval x = v at hx'
    generalize hu : a.eval l = u at hl'
    generalize hz : a.eval h = z at hh'
    cases hl' with
    | d _ _ hl' => cases hl' with
      | v _ => cases hh' with
        | d _ _ hh' => cases hh' with
          | v _ => cases hx' with
            | d _ _ hx' =>
              obtain ⟨ad, c, hvv, hc, hcm⟩ := hx'.slice
              rw [hvv] at hv hx'
              have hp := hx'.part (lo := n.toNat) (hi := m.toNat) (by omega) (by simp; omega)
              rw [← List.map_take, ← List.map_drop] at hp
              refine ⟨_, ?_, .d _ _ hp⟩
              have := run_slice_lh (P := P) w t ad (xs.map f).length c (esz_spec ht).1 kk kh n m h0 h1 (by simp at hc ⊢; omega)
              simp only [execOp, ho, hv, hu, hz, Option.map_some, Option.map_none, Sem.run_bind, run_sliceAt_slice w t _ _ _ _ (esz_spec ht).1, this, run_sizeElem ht, Result.andThen_ok, Sem.run_pure]

/-- x[:hi] -/
theorem OpSem.sliceH {t k : Nat} {x h : Operand} {α : Type} {xs : List α} {f : α → List D} {kh : IntKind} {m : Int} (ho : o.op = .slice t x none (some h) none) (hx : opS e x = some (.d (.s k (xs.map f)))) (hh : opS e h = some (.d (.v (.int kh m))))
    (ht : esz P t = some k) (h0 : 0 ≤ m) (h2 : m ≤ xs.length) : OpSem P B o e M (.d (.s k ((xs.take m.toNat).map f))) none :=
  .value fun O H a w hs _ => by
    have hx' := hs x (by simp [ho, Op.operands]) _ hx
    have hh' := hs h (by simp [ho, Op.operands]) _ hh
    generalize hv : a.eval x = v at hx'
    generalize hz : a.eval h = z at hh'
    cases hh' with
    | d _ _ hh' => cases hh' with
      | v _ => cases hx' with
        | d _ _ hx' =>
          obtain ⟨ad, c, hvv, hc, hcm⟩ := hx'.slice
          rw [hvv] at hv hx'
          have hp := hx'.part (lo := 0) (hi := m.toNat) (by omega) (by simp; omega)
          rw [← List.map_take, List.drop_zero] at hp
          refine ⟨_, ?_, .d _ _ hp⟩
          have := run_slice_h (P := P) w t ad (xs.map f).length c (esz_spec ht).1 kh m h0 (by simp at hc ⊢; omega)
          simp only [execOp, ho, hv, hz, Option.map_some, Option.map_none, Sem.run_bind, run_sliceAt_slice w t _ _ _ _ (esz_spec ht).1, this, run_sizeElem ht, Result.andThen_ok, Sem.run_pure]
end

section
variable {P : Program} {N : Nat} {w0 : World} {O0 : Nat → Nat} {ops : Array Oper} {Q : Post} {e : Env} {M : Mem}
def killC (h : Nat) (cs : List S) : List S := cs.map fun s => bif S.ok 9 h s then s else .u
/-- A cell of a variable that is known to hold nil becomes an empty slice of the call's own. -/
theorem Tr.ownNilBox {c : Code} (h h0 i k T : Nat) {cs : List S} (hne : Nat.beq h0 h = false) (hM : look M h0 = some (.box cs)) (hi : cs[i]? = some (.d (.v (.slice none 0 0))))
    (hc : Tr P N w0 O0 (kill h e) ((h, .own k T []) :: (h0, .box ((killC h cs).set i (.o h))) :: killM h M) c Q) : Tr P N w0 O0 e M c Q := by
  intro O H a w hst
  have hne' : h0 ≠ h := fun e => by subst e; simp at hne
  obtain ⟨H', hH'⟩ : ∃ H' : Nat → Value, H' = fun m => if m = h then (.slice none 0 0 : Value) else H m := ⟨_, rfl⟩
  have hh : H' h = .slice none 0 0 := by rw [hH']; simp
  have hk : Keep none (some h) O H w O H' w := ⟨fun _ _ => rfl, fun _ _ _ => rfl, fun n hn => by rw [hH']; simp; intro e; subst e; exact (hn rfl).elim⟩
  have hmem : ∀ h' m2, look M h' = some m2 → h' ≠ h → MHold O H' w0.heap.size w h' (m2.kill h) := fun h' m2 hm2 hn =>
    ((hst.mem h' m2 hm2).kill (h := h)).mono hk (by simp) (by simp; omega) 9 (fun h1 he => by cases he; exact Mo.kill_ok _ m2) (.inr (by omega))
  refine hc O H' a w ⟨hst.df, hst.sz, hst.bl, hst.lab, fun m s hs => ?_, fun m' m hm => ?_⟩
  · obtain ⟨s', hs', hor⟩ := look_kill hs
    obtain ⟨y, hy, hr⟩ := hst.slots _ s' hs'
    rcases hor with ⟨hok, rfl⟩ | rfl
    · exact ⟨y, hy, hr.mono hk 9 (fun h he => by cases he; exact hok) (.inr (by omega))⟩
    · exact ⟨y, hy, .u y⟩
  · rcases look_cons hm with ⟨rfl, rfl⟩ | ⟨hne, hm⟩
    · exact .inl ⟨hh, rfl⟩
    · rcases look_cons hm with ⟨rfl, rfl⟩ | ⟨_, hm⟩
      · have h1 := hmem m' (.box cs) hM hne'
        have h2 := hst.mem m' (.box cs) hM
        obtain ⟨b, xs, T', hb1, hb2, hb3, hb4, hb5, hb6⟩ := h1
        obtain ⟨b', xs', T'', hb1', hb2', hb3', hb4', hb5', hb6'⟩ := h2
        have hsame : H' m' = H m' := by rw [hH']; simp [hne']
        rw [hsame, hb1'] at hb1
        obtain rfl : b' = b := by simpa using hb1
        rw [hb4'] at hb4
        obtain ⟨rfl, rfl⟩ : xs' = xs ∧ T'' = T' := by simpa using hb4
        refine ⟨b', xs', T'', by rw [hsame, hb1'], hb2, hb3, hb4', by simpa [killC] using hb5, fun j s hj => ?_⟩
        by_cases hji : i = j
        · subst hji
          obtain ⟨x, hx, hr, h1⟩ := hb6' i _ hi
          have hlt : i < (killC h cs).length := by simp only [killC, List.length_map]; exact (List.getElem?_eq_some_iff.1 hi).1
          rw [List.getElem?_set_self hlt] at hj
          obtain rfl : S.o h = s := by simpa using hj
          have hxb : x = .slice none 0 0 := by
            cases hr with
            | d _ _ q => cases q with
              | v _ => rfl
          subst hxb
          refine ⟨_, hx, ?_, h1⟩
          have := RepS.o (O := O) (H := H') (w := w) h (by rw [hh]; rfl)
          rwa [hh] at this
        · rw [List.getElem?_set_ne hji] at hj
          exact hb6 j s hj
      · obtain ⟨m2, hm2, hor⟩ := look_killM hm
        rcases hor with rfl | ⟨hn, rfl⟩
        · trivial
        · exact hmem m' m2 hm2 hn
end

section
variable {P : Program} {N : Nat} {w0 : World} {O0 : Nat → Nat} {e : Env} {M : Mem}
theorem At.retO2 {fn : Func} {t h k T : Nat} {rows rows' : List (List D)} (hres : fn.results.toList = [.tmp t]) (ho : look e t = some (.o h)) (hM : look M h = some (.own k T rows))
    (hf : rows'.all (fun r => r.all fun d => match d with | .v _ => true | _ => false) = true) (hr : rows = rows') : At N w0 O0 e M .ret (bodyPost P fn (RetO w0 k T rows')) := by
  subst hr; exact At.retO hres ho hM hf rfl
end
theorem one_map {α : Type} {l : List α} {f : α → List D} (hf : ∀ x, (f x).all D.one = true) : ∀ r, r ∈ l.map f → r.all D.one = true := by
  intro r hr
  obtain ⟨x, _, rfl⟩ := List.mem_map.1 hr
  exact hf x
/-- Data that says no more. -/
def LeD (x y : D) : Prop := ∀ (O : Nat → Nat) (w : World) (v : Value), RepD O w v x → RepD O w v y
theorem LeD.refl (x : D) : LeD x x := fun _ _ _ h => h
theorem LeD.nil (k : Nat) : LeD (.v (.slice none 0 0)) (.s k []) := fun O w v h => by
  cases h with
  | v _ => exact .e none 0 k (by simp [maxLen])
inductive LeR : List D → List D → Prop
  | nil : LeR [] []
  | cons {x y : D} {l l' : List D} (h : LeD x y) (t : LeR l l') : LeR (x :: l) (y :: l')
theorem LeR.refl : ∀ l, LeR l l
  | [] => .nil
  | x :: l => .cons (.refl x) (.refl l)
theorem LeR.get : ∀ {l l' : List D}, LeR l l' → l.length = l'.length ∧ ∀ (i : Nat) (y : D), l'[i]? = some y → ∃ x, l[i]? = some x ∧ LeD x y
  | _, _, .nil => ⟨rfl, fun i y h => by simp at h⟩
  | _, _, .cons h t => by
    obtain ⟨h1, h2⟩ := LeR.get t
    refine ⟨by simp [h1], fun i y hy => ?_⟩
    cases i with
    | zero => simp at hy; subst hy; exact ⟨_, rfl, h⟩
    | succ i => simp at hy ⊢; exact h2 i y hy
inductive LeRs : List (List D) → List (List D) → Prop
  | nil : LeRs [] []
  | cons {x y : List D} {l l' : List (List D)} (h : LeR x y) (t : LeRs l l') : LeRs (x :: l) (y :: l')
theorem LeRs.get : ∀ {l l' : List (List D)}, LeRs l l' → l.length = l'.length ∧ ∀ (i : Nat) (y : List D), l'[i]? = some y → ∃ x, l[i]? = some x ∧ LeR x y
  | _, _, .nil => ⟨rfl, fun i y h => by simp at h⟩
  | _, _, .cons h t => by
    obtain ⟨h1, h2⟩ := LeRs.get t
    refine ⟨by simp [h1], fun i y hy => ?_⟩
    cases i with
    | zero => simp at hy; subst hy; exact ⟨_, rfl, h⟩
    | succ i => simp at hy ⊢; exact h2 i y hy
/-- A slice whose rows say no more. -/
theorem LeD.rows {k : Nat} {l l' : List (List D)} (h : LeRs l l') : LeD (.s k l) (.s k l') := fun O w v hr => by
  obtain ⟨hl, hg⟩ := h.get
  cases hr with
  | e a c k hm =>
    obtain rfl : l' = [] := List.eq_nil_of_length_eq_zero (by rw [← hl]; rfl)
    exact .e a c k hm
  | s b off c k rows y hc hm hw hO hy hr =>
    rw [hl]
    have key : ∀ (i : Nat) (r : List D) (j : Nat) (d : D), l'[i]? = some r → r[j]? = some d → ∃ r' d', l[i]? = some r' ∧ r'[j]? = some d' ∧ LeD d' d := fun i r j d hi hj => by
      obtain ⟨r', h1, h2⟩ := hg i r hi
      obtain ⟨d', h3, h4⟩ := h2.get.2 j d hj
      exact ⟨r', d', h1, h3, h4⟩
    refine .s b off c k l' y (by omega) hm (fun r hr' => ?_) (fun i r j d hi hj => ?_) (fun i r j d hi hj => ?_) (fun i r j d hi hj => ?_)
    · obtain ⟨i, hi⟩ := List.mem_iff_getElem?.1 hr'
      obtain ⟨r', h1, h2⟩ := hg i r hi
      rw [← h2.get.1]
      exact hw r' (List.mem_of_getElem? h1)
    · obtain ⟨r', d', h1, h2, _⟩ := key i r j d hi hj; exact hO i r' j d' h1 h2
    · obtain ⟨r', d', h1, h2, _⟩ := key i r j d hi hj; exact hy i r' j d' h1 h2
    · obtain ⟨r', d', h1, h2, h3⟩ := key i r j d hi hj; exact h3 O w _ (hr i r' j d' h1 h2)
theorem Le.ofD {x y : D} (h : LeD x y) : Le (.d x) (.d y) := fun O H w v hr => by
  cases hr with
  | d _ _ q => exact .d _ _ (h O w v q)
end Go.Eng
