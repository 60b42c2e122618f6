/- The engine, part 20: small arrays of ints. The engine, part 21: structs written into a slice of the call's own; the slice cut. -/
import Derived.Test.YtohlmcebphcokaaEng19
import Derived.Test.YtohlmcebphcokaaEngD
import Derived.ChangeKeysEq
set_option linter.unusedSimpArgs false
set_option linter.unnecessarySimpa false
set_option linter.unusedVariables false
namespace Go.Eng
open Go.RowKit (Below)

def arrOf (P : Program) (t : TypeId) (n : Nat) : Bool :=
  match P.underlying t with
  | some (.array m e) => m == n && (P.info? e).map (·.size) == some 1 && P.cellsOf e == 1 && vsz P e == some (false, 1) && (match P.underlying e with | some (.int _) => true | _ => false) && !P.eqGuardType P.depth t
  | _ => false
theorem arrOf_spec {P : Program} {t n : Nat} (h : arrOf P t n = true) : ∃ e i kk, P.underlying t = some (.array n e) ∧ P.info? e = some i ∧ i.size = 1 ∧ P.cellsOf e = 1 ∧ vsz P e = some (false, 1) ∧ P.underlying e = some (.int kk) ∧ P.eqGuardType P.depth t = false := by
  unfold arrOf at h
  cases hu : P.underlying t with
  | none => simp [hu] at h
  | some d =>
    cases d <;> simp only [hu] at h <;> try (cases h; done)
    case array m e =>
      simp only [Bool.and_eq_true, Bool.not_eq_true', beq_iff_eq] at h
      obtain ⟨⟨⟨⟨⟨h1, h2⟩, h3⟩, h4⟩, h5⟩, h6⟩ := h
      subst h1
      cases hi : P.info? e with
      | none => simp [hi] at h2
      | some i =>
        simp [hi] at h2
        cases hv : P.underlying e with
        | none => simp [hv] at h5
        | some d =>
          cases d <;> simp [hv] at h5
          exact ⟨e, i, _, rfl, hi, h2, h3, h4, hv, h6⟩

section
variable {P : Program} {B : Nat} {o : Oper} {e : Env} {M : Mem} {s : S}
theorem OpSem.buildA {t n : TypeId} {ps : Array (Nat × Operand)} {l : List (Nat × S)} {zs : List Value} {ss : List S} (ho : o.op = .build t ps) (hp : partsS e ps.toList = some l) (ht : arrOf P t n = true)
    (hz : zcells P t = some zs) (h1 : zs.all Value.oneCell' = true) (hf : fillS (fun i => some (i * 1, 1)) (zs.map fun z => .d (.v z)) l = some ss) : OpSem P B o e M (.g ss) none :=
  .value fun O H a w hs _ => by
    obtain ⟨el, i, kk, hu, hi, hi1, _⟩ := arrOf_spec ht
    obtain ⟨q1, q2⟩ := partsS_rep (O := O) (H := H) (w := w) (a := a) ps.toList l hp (fun p hp s hs' => hs p.2 (by simp only [ho, Op.operands]; simpa using ⟨p.1, by simpa using hp⟩) s hs')
    obtain ⟨cs', hcs, hrep⟩ := fill_rep (places := fun i => some (i * 1, 1)) _ l zs.toArray _ ss q1 q2 (RepC.zero zs h1) hf
    obtain ⟨z, hz1, hz2⟩ := run_zero hz w
    refine ⟨.agg cs', ?_, hrep.g⟩
    have hcs2 : Instr.fill (fun i => some (i * 1, 1)) zs.toArray (ps.toList.map fun p => (p.1, a.eval p.2)) = some cs' := hcs
    simp only [Nat.mul_one] at hcs2
    have hsz : (sizeOf el).run P w = .ok 1 w := by simp [sizeOf, typeInfo, hi, hi1]
    simp [execOp, ho, Instr.build, run_underlying hu, hz1, hz2, hsz, hcs2]

theorem run_eqA2 {t : Nat} {a b c d : Int} (ht : arrOf P t 2 = true) (w : World) (k : Nat) : (Op.equalIn (k + 2) t (.agg #[.int .i64 a, .int .i64 b]) (.agg #[.int .i64 c, .int .i64 d])).run P w = .ok (decide (a = c ∧ b = d)) w := by
  obtain ⟨el, i, kk, hu, hi, hi1, hc1, hv, he, hg⟩ := arrOf_spec ht
  rw [run_equalIn_array w (k + 1) _ _ hu hi, hc1]
  have p0 : ∀ x y : Int, (part el #[.int .i64 x, .int .i64 y] 0).run P w = .ok (.int .i64 x) w := fun x y => by simp [part, (run_isAgg hv w).1]
  have p1 : ∀ x y : Int, (part el #[.int .i64 x, .int .i64 y] 1).run P w = .ok (.int .i64 y) w := fun x y => by simp [part, (run_isAgg hv w).1]
  have hr : List.range 2 = [0, 1] := rfl
  rw [hr]
  simp only [Op.eqItems, Nat.zero_mul, Nat.one_mul, Sem.run_bind, p0, p1, Result.andThen_ok, run_equalIn_int w k el .i64 kk _ _ he, Sem.run_ite, Sem.run_pure]
  by_cases h1 : a = c
  · by_cases h2 : b = d
    · simp [h1, h2]
    · simp [h1, h2]
  · simp [h1]

theorem OpSem.neA2 {t u : Nat} {x y : Operand} {a b c d : Int} (ho : o.op = .binOp .neq t x y u) (hx : opS e x = some (.g [I a, I b])) (hy : opS e y = some (.g [I c, I d])) (ht : arrOf P t 2 = true) :
    OpSem P B o e M (.d (.v (.bool (!decide (a = c ∧ b = d))))) none :=
  .value fun O H ac w hs _ => by
    have hx' := rep_ints (xs := [a, b]) (hs x (by simp [ho, Op.operands]) _ hx)
    have hy' := rep_ints (xs := [c, d]) (hs y (by simp [ho, Op.operands]) _ hy)
    obtain ⟨el, i, kk, hu, hi, hi1, hc1, hv, he, hg⟩ := arrOf_spec ht
    refine ⟨.bool (!decide (a = c ∧ b = d)), ?_, .d _ _ (.v _)⟩
    simp only [List.map_cons, List.map_nil] at hx' hy'
    simp only [execOp, ho, hx', hy', Sem.run_bind, run_eqGuard_agg w .neq t x y _ _ hg, Result.andThen_ok, run_neq_struct, run_eqA2 ht w 9998, Sem.run_pure]
end
end Go.Eng

set_option linter.unusedSimpArgs false
set_option linter.unnecessarySimpa false
set_option linter.unusedVariables false
namespace Go.Eng
open Go.RowKit (Below)

section
variable {P : Program} {N : Nat} {w0 : World} {O0 : Nat → Nat} {ops : Array Oper} {Q : Post} {e : Env} {M : Mem} {rest : List Oper} {o : Oper} {s : S} {B : Nat}

theorem OpSt.storeqN {t : TypeId} {x y : Operand} {g : Bool} {h k T i : Nat} {rows : List (List D)} {r' : List D} (ho : o.op = .store t x y) (hx : opS e x = some (.q h k i 0)) (hy : opS e y = some s) (hs : s.cells = some (r'.map .d))
    (ht : vsz P t = some (g, k)) (hi : i < rows.length) (hrk : r'.length = k) : OpSt P B o e h (.own k T rows) (.own k T (rows.take i ++ [r'] ++ rows.drop (i + 1))) .u := by
  intro O H a w hBw hsl hm K hK
  have hr := hsl x (by simp [ho, Op.operands]) _ hx
  have hv := hsl y (by simp [ho, Op.operands]) _ hy
  obtain ⟨v1, v2⟩ := hv.cells hs
  simp only [List.length_map] at v1
  generalize hxa : a.eval x = xa at hr
  cases hr with
  | q h b k i j len cap' hH' =>
    rcases hm with ⟨h0, _⟩ | ⟨b', cap, xs, hH, hB, hO, hb, hlc, hcm, hsz, hw, hc⟩
    · rw [h0] at hH'; cases hH'
    · rw [hH] at hH'
      simp only [Value.slice.injEq, Option.some.injEq, Addr.mk.injEq, and_true] at hH'
      obtain ⟨rfl, _, _⟩ := hH'
      have h1 : ∀ z, z ∈ (a.eval y).cells.toList → z.oneCell' = true := by
        intro z hz
        obtain ⟨i, hi⟩ := List.getElem?_of_mem hz
        have hlt : i < r'.length := by rw [← v1]; have := (List.getElem?_eq_some_iff.1 hi).1; simpa using this
        obtain ⟨z', hz', _, ho'⟩ := v2 i (.d r'[i]) (by rw [List.getElem?_map, List.getElem?_eq_getElem hlt]; rfl)
        have : z = z' := by simpa [hz'] using hi.symm
        rw [this]; exact ho'
      have hvl : (a.eval y).cells.toList.length = ([r'] : List (List D)).length * k := by simp [v1, hrk]
      obtain ⟨c1, c2, c3⟩ := MHold.setCells (new := [r']) (vs := (a.eval y).cells.toList) (lo := i) hH hB hO hb hlc hcm hsz hw hc (by simp; omega) hvl (fun r hr => by simp at hr; rw [hr]; exact hrk) (fun i' r j d hi' hj => by
        have : i' = 0 := by have := (List.getElem?_eq_some_iff.1 hi').1; simp at this; omega
        subst this
        simp at hi'; subst hi'
        obtain ⟨z, hz, hrz, hoz⟩ := v2 j (.d d) (by rw [List.getElem?_map, hj]; rfl)
        refine ⟨z, by simpa using hz, ?_, hoz⟩
        cases hrz with
        | d _ _ hd => exact hd) h1
      have hfit : i * k + k ≤ xs.size := by
        rw [hsz]
        have := Nat.mul_le_mul_right k (show i + 1 ≤ cap by omega)
        rw [Nat.succ_mul] at this; exact this
      have hrun := run_storeVar ht (off := i * k) (v := a.eval y) hb (by rw [v1, hrk]) hfit h1
      unfold Oper.wp
      have e0 : i * k + 0 = i * k := rfl
      simp only [execOp, ho, hxa, e0, Instr.storeAt, Instr.sureAddr, Sem.run_bind, Sem.run_pure, Result.andThen_ok, hrun, Oper.upon_skip]
      have hl : (a.eval y).cells.toList.length = k := by simp [v1, hrk]
      rw [hl] at c1 c2 c3
      refine hK _ _ c1 c2 ?_ (.u _)
      simpa using c3

theorem TrOps.ofSt0 {h : Nat} {m m' : Mo} (hst : OpSt P w0.heap.size o e h m m' s) (hM : look M h = some m) (hg : o.guard = none) (hd : o.dst = none)
    (hn : TrOps P N w0 O0 ops Q e ((h, m') :: M) rest) : TrOps P N w0 O0 ops Q e M (o :: rest) := by
  intro O H a w h0
  refine wpList_plain hg fun K hK => Oper.wp_false (hst O H a w h0.bl.size (h0.slotsAt _) (h0.mem h m hM) _ fun w' x h1 h2 h3 h4 => hK _ _ (hn O H _ _ ⟨?_, ?_, h0.bl.trans (h2.mono (Nat.le_refl _)), h0.lab, ?_, fun h' mm hm => ?_⟩)) _
  · rw [hd]; exact h0.df
  · rw [hd]; exact h0.sz
  · rw [hd]
    intro n s' hs'
    obtain ⟨z, hz, hr⟩ := h0.slots n s' hs'
    exact ⟨z, hz, hr.mono0 h1⟩
  · rcases look_cons hm with ⟨rfl, rfl⟩ | ⟨hne, hm⟩
    · exact h3
    · exact (h0.mem h' mm hm).mono h1 (by intro e; cases e; exact hne rfl) (by simp) 0 (fun h he => by cases he) (.inl rfl)

/-- x[:n], of which no other part is used any more. -/
theorem OpSem.cutO {t k T h : Nat} {x l : Operand} {rows : List (List D)} {kk : IntKind} {n : Int} (ho : o.op = .slice t x none (some l) none) (hx : opS e x = some (.o h)) (hM : look M h = some (.own k T rows)) (hl : opS e l = some (.d (.v (.int kk n))))
    (ht : esz P t = some k) (h0 : 0 ≤ n) (h1 : n ≤ rows.length) (h2 : 0 < rows.length) : OpSem P B o e M (.o h) (some (h, .own k T (rows.take n.toNat))) := by
  intro O H a w hB hs hms K hK
  have hx' := hs x (by simp [ho, Op.operands]) _ hx
  have hl' := hs l (by simp [ho, Op.operands]) _ hl
  obtain ⟨b, cap, xs, g1, g2, g3, g4, g5, g6, g7, g8, g9⟩ := (hms h _ hM).ownSome h2
  generalize hv : a.eval x = v at hx'
  generalize hu : a.eval l = u at hl'
  cases hl' with
  | d _ _ hl' => cases hl' with
    | v _ => cases hx' with
      | o h h1' =>
        rw [g1] at hv
        have hrun : (execOp a.eval o).run P w = .ok (.value (.slice (some ⟨b, 0, none⟩) n.toNat cap)) w := by
          have := run_slice_h (P := P) w t (some ⟨b, 0, none⟩) rows.length cap (esz_spec ht).1 kk n h0 (by omega)
          simp only [execOp, ho, hv, hu, Option.map_some, Option.map_none, Sem.run_bind, run_sliceAt_slice w t _ _ _ _ (esz_spec ht).1, this, run_sizeElem ht, Result.andThen_ok, Sem.run_pure]
          unfold sliced
          simp [Addr.add_zero']
        unfold Oper.wp
        rw [hrun]
        obtain ⟨H', hH'⟩ : ∃ H' : Nat → Value, H' = fun m => if m = h then (.slice (some ⟨b, 0, none⟩) n.toNat cap : Value) else H m := ⟨_, rfl⟩
        have hh : H' h = .slice (some ⟨b, 0, none⟩) n.toNat cap := by rw [hH']; simp
        have hk : Keep none (some h) O H w O H' w := ⟨fun _ _ => rfl, fun _ _ _ => rfl, fun m hm => by rw [hH']; simp; intro e; subst e; exact (hm rfl).elim⟩
        have hrep := RepS.o (O := O) (H := H') (w := w) h (by rw [hh]; rfl)
        rw [hh] at hrep
        refine hK O H' w _ hk (.refl _ _) hrep (fun h' m he => ?_)
        simp only [Option.some.injEq, Prod.mk.injEq] at he
        obtain ⟨rfl, rfl⟩ := he
        have hlen : (rows.take n.toNat).length = n.toNat := by simp; omega
        refine .inr ⟨b, cap, xs, by rw [hlen]; exact hh, g2, g3, g4, by rw [hlen]; omega, g6, g7, fun r hr => g8 r (List.mem_of_mem_take hr), fun i r j d hi hj => ?_⟩
        have hin : i < n.toNat := by have := (List.getElem?_eq_some_iff.1 hi).1; omega
        rw [List.getElem?_take_of_lt hin] at hi
        exact g9 i r j d hi hj
end
end Go.Eng
