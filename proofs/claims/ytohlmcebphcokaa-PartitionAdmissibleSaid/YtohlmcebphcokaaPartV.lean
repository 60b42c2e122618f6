/- Walks, written by gen.py out of hints. -/
import Derived.Test.YtohlmcebphcokaaTypes
import Derived.Test.YtohlmcebphcokaaPart
import Derived.Test.YtohlmcebphcokaaEngT
import Derived.Test.YtohlmcebphcokaaEngU
set_option linter.unusedVariables false
set_option linter.unusedSimpArgs false
namespace Go.Proofs.Ytohlmcebphcokaa
open Go.Eng
set_option maxRecDepth 10000
set_option maxHeartbeats 1000000


open Go.RowKit (Below)
theorem vsRows : vsz Try.prog 37 = some (false, 1) := by kernel_rfl
theorem vsBool : vsz Try.prog 4 = some (false, 1) := by kernel_rfl
def colsTo (n k : Nat) : List (Fin n) := (List.finRange n).take k
theorem colsTo_s {n k : Nat} (hk : k < n) : colsTo n (k + 1) = colsTo n k ++ [⟨k, hk⟩] := by
  unfold colsTo
  rw [List.take_add_one, List.getElem?_eq_getElem (by simpa using hk)]
  simp
theorem colsTo_len {n k : Nat} (hk : k ≤ n) : (colsTo n k).length = k := by simp [colsTo]; omega
theorem colsTo_mem {n : Nat} (x : Fin n) : x ∈ colsTo n n := by simp [colsTo, List.take_of_length_le]

theorem abide {β : Type} {B : Nat} {J : β → World → Prop} (hJ : AbidesFrom B J) {s : β} {A A' : World} (h : J s A) (hb : Below A.heap.size A A') : J s A' :=
  hJ s A A' none h ⟨hb.os, hb.tape, hb.output, hb.size, fun k hk _ => hb.block k hk⟩ (fun r e => by cases e)

theorem Tr.start3 {P : Program} {N : Nat} {W : World} {O0 : Nat → Nat} {x0 x1 x2 : Value} {s0 s1 s2 : S} {k : Nat} {c : Code} {Q : Post} (hN : k + 3 = N) (h0 : RepS O0 zH W x0 s0) (h1 : RepS O0 zH W x1 s1) (h2 : RepS O0 zH W x2 s2)
    (h : Tr P N W O0 [(0, s0), (1, s1), (2, s2)] [] c Q) : c.wp P Q { tmps := #[x0] ++ #[x1, x2] ++ Array.replicate k undef, defers := [] } W := by
  refine h O0 zH _ W ⟨rfl, by simp; omega, .refl _ _, fun _ _ => rfl, fun n s hs => ?_, fun n s hs => by cases hs⟩
  rcases look_cons hs with ⟨rfl, rfl⟩ | ⟨_, hs⟩
  · exact ⟨x0, by rw [Array.getElem?_append_left (by simp)]; rfl, h0⟩
  · rcases look_cons hs with ⟨rfl, rfl⟩ | ⟨_, hs⟩
    · exact ⟨x1, by rw [Array.getElem?_append_left (by simp)]; rfl, h1⟩
    · rcases look_cons hs with ⟨rfl, rfl⟩ | ⟨_, hs⟩
      · exact ⟨x2, by rw [Array.getElem?_append_left (by simp)]; rfl, h2⟩
      · cases hs

theorem partition_sums_1_stops (c : List Int) (ps : List (List Int)) (h : prtF c ps = (0, 0)) (Oc : Nat → Nat) (W0 : World) (lb0 lb1 : Value) (r0 : RepS Oc zH W0 lb0 (.p [ints c])) (r1 : RepS Oc zH W0 lb1 (.p [rows ps])) (n : Nat) :
    SeqStopsK Fence.wide n Try.prog 106 #[lb0, lb1] (fun x : Fin c.length => #[.int .i64 (x.1 : Int), .int .i64 (colS ps x.1 ps.length)]) (Below W0.heap.size) (fun xs => xs = colsTo c.length c.length) (fun pre => ∃ k, k ≤ c.length ∧ pre = colsTo c.length k) c.length W0 := by
  obtain ⟨_, hc40, hcp, hp6, hps⟩ := prtF_ok h
  intro l J Jx W hW hJ hJx hY hJ0
  have hO : ∀ w, Below W0.heap.size W0 w → Keeps Oc W0 (belowO W0.heap.size Oc) w := fun w hb b hlt h0 => ⟨by simp [belowO, hlt, h0], hb.block b hlt⟩
  refine callsIn_of_wp Try.func106 rfl trivial (wpIn_wide.2 ?_)
  refine Tr.start3 (N := 32) (O0 := belowO W0.heap.size Oc) (s0 := .d (.v (.func (.yield l) #[] #[]))) (s1 := .a (capK lb0 Oc W0)) (s2 := .a (capK lb1 Oc W0)) (by rw [Try.ntmps106]; rfl) (.d _ _ (.v _)) (.a _ _ ⟨rfl, hO W hW⟩) (.a _ _ ⟨rfl, hO W hW⟩) ?_
  refine Tr.seq ?_
  refine Tr.region ?_
  refine TrOps.sem (OpSem.loadK rfl rfl r0 vs22 rfl) rfl rfl (by decide) ?_
  refine TrOps.sem (OpSem.lenL rfl rfl es22) rfl rfl (by decide) ?_
  refine TrOps.sem (OpSem.move (.inl rfl) rfl) rfl rfl (by decide) ?_
  refine TrOps.nil ?_
  refine At.seq ?_
  refine Tr.block ?_
  refine Tr.loopI (fun m a w => ∃ k : Nat, k ≤ c.length ∧ m = c.length - k ∧ J (colsTo c.length k) w ∧ St 32 w (belowO W0.heap.size Oc) [(0, .d (.v (.func (.yield l) #[] #[]))), (1, .a (capK lb0 Oc W0)), (2, .a (capK lb1 Oc W0)), (9, I (c.length : Int)), (10, I (k : Nat))] [] (belowO W0.heap.size Oc) zH a w) c.length ?_ ?_
  · intro O H a w hst
    exact ⟨0, Nat.zero_le _, rfl, abide hJ hJ0 hst.bl, (Reb.flat (s := .d (.v (.func (.yield l) #[] #[]))) rfl (.refl _) rfl <| .cap rfl <| .cap rfl <| .flat rfl (.refl _) rfl <| .flat rfl (Le.of_eq (by simp)) rfl <| .nil).st hst⟩
  rintro m a w ⟨k, hkl, rfl, hJk, hst⟩
  refine (?_ : Tr Try.prog 32 w (belowO W0.heap.size Oc) [(0, .d (.v (.func (.yield l) #[] #[]))), (1, .a (capK lb0 Oc W0)), (2, .a (capK lb1 Oc W0)), (9, I (c.length : Int)), (10, I (k : Nat))] [] _ _) _ _ _ _ hst
  clear hst
  refine Tr.seq ?_
  refine Tr.region ?_
  refine TrOps.sem (OpSem.bin rfl rfl rfl blss) rfl rfl (by decide) ?_
  refine TrOps.nil ?_
  refine At.seq ?_
  refine Tr.seq ?_
  refine Tr.cond rfl (fun c11 => ?_) (fun c11 => ?_)
  · have hk : k < c.length := by simpa using c11
    refine Tr.skip ?_
    refine At.seq ?_
    refine Tr.seq ?_
    refine Tr.block ?_
    refine Tr.seq ?_
    refine Tr.region ?_
    refine TrOps.sem (OpSem.move (.inl rfl) rfl) rfl rfl (by decide) ?_
    refine TrOps.sem (OpSem.move (.inr rfl) rfl) rfl rfl (by decide) ?_
    refine TrOps.nil ?_
    refine At.seq ?_
    refine Tr.seq ?_
    refine Tr.region ?_
    refine TrOps.sem (OpSem.move (.inr rfl) rfl) rfl rfl (by decide) ?_
    refine TrOps.nil ?_
    refine At.seq ?_
    refine Tr.seq ?_
    refine Tr.seq ?_
    refine Tr.region ?_
    refine TrOps.sem (OpSem.loadK rfl rfl r1 vsRows rfl) rfl rfl (by decide) ?_
    refine TrOps.sem (OpSem.lenL rfl rfl es37) rfl rfl (by decide) ?_
    refine TrOps.sem (OpSem.move (.inl rfl) rfl) rfl rfl (by decide) ?_
    refine TrOps.nil ?_
    refine At.seq ?_
    refine Tr.block ?_
    refine Tr.loop (X := Nat) (fun j => j ≤ ps.length) (fun j => [(0, .d (.v (.func (.yield l) #[] #[]))), (1, .a (capK lb0 Oc W0)), (2, .a (capK lb1 Oc W0)), (9, I (c.length : Int)), (10, I (k : Nat)), (4, I (k : Nat)), (5, I (colS ps k j)), (13, .d (rows ps)), (14, I (ps.length : Int)), (15, I (j : Nat))]) (fun j => []) (fun j => ps.length - j) 0 (by omega) ?_ ?_
    · exact .slot rfl (.refl _) <| .slot rfl (.refl _) <| .slot rfl (.refl _) <| .slot rfl (.refl _) <| .slot rfl (.refl _) <| .slot rfl (.refl _) <| .slot rfl (Le.of_eq (by simp [colS])) <| .slot rfl (.refl _) <| .slot rfl (.refl _) <| .slot rfl (Le.of_eq (by simp)) <| .nil
    · rintro j hjl
      refine Tr.seq ?_
      refine Tr.region ?_
      refine TrOps.sem (OpSem.bin rfl rfl rfl blss) rfl rfl (by decide) ?_
      refine TrOps.nil ?_
      refine At.seq ?_
      refine Tr.seq ?_
      refine Tr.cond rfl (fun c16 => ?_) (fun c16 => ?_)
      · have hj : j < ps.length := by simpa using c16
        have hpj := hps j hj
        have hpx := hpj.2 k (by omega)
        have hcs := colS_in (x := k) hk hps (k := j) (by omega)
        refine Tr.skip ?_
        refine At.seq ?_
        refine Tr.seq ?_
        refine Tr.block ?_
        refine Tr.seq ?_
        refine Tr.region ?_
        refine TrOps.sem (OpSem.idxL rfl rfl rfl es37 (by omega) (by omega)) rfl rfl (by decide) ?_
        refine TrOps.sem (OpSem.load1 rfl rfl vs22 rfl) rfl rfl (by decide) ?_
        refine TrOps.sem (OpSem.move (.inr rfl) rfl) rfl rfl (by decide) ?_
        refine TrOps.nil ?_
        refine At.seq ?_
        refine Tr.region ?_
        refine TrOps.sem (OpSem.move (.inl rfl) rfl) rfl rfl (by decide) ?_
        refine TrOps.sem (OpSem.move (.inl rfl) rfl) rfl rfl (by decide) ?_
        refine TrOps.sem (OpSem.move (.inl rfl) rfl) rfl rfl (by decide) ?_
        refine TrOps.sem (OpSem.idxL rfl rfl rfl es22 (by omega) (by omega)) rfl rfl (by decide) ?_
        refine TrOps.sem (OpSem.load1 rfl rfl vs3 rfl) rfl rfl (by decide) ?_
        refine TrOps.sem (OpSem.bin rfl rfl rfl (badd (by omega) (by omega))) rfl rfl (by decide) ?_
        refine TrOps.sem (OpSem.move (.inr rfl) rfl) rfl rfl (by decide) ?_
        refine TrOps.nil ?_
        refine At.block_normal ?_
        refine At.seq ?_
        refine Tr.region ?_
        refine TrOps.sem (OpSem.bin rfl rfl rfl (badd (by omega) (by omega))) rfl rfl (by decide) ?_
        refine TrOps.sem (OpSem.move (.inl rfl) rfl) rfl rfl (by decide) ?_
        refine TrOps.nil ?_
        refine At.again (j + 1) (by omega) ?_ (by omega)
        exact .slot rfl (.refl _) <| .slot rfl (.refl _) <| .slot rfl (.refl _) <| .slot rfl (.refl _) <| .slot rfl (.refl _) <| .slot rfl (.refl _) <| .slot rfl (.refl _) <| .slot rfl (.refl _) <| .slot rfl (.refl _) <| .slot rfl (Le.of_eq (by simp)) <| .nil
      · have hj : j = ps.length := by simp at c16; omega
        subst hj
        refine Tr.exit ?_
        refine At.pass_exit ?_
        refine At.pass_exit ?_
        refine At.block_same ?_
        refine At.seq ?_
        refine Tr.seq ?_
        refine Tr.regionL (n := n) ?_
        have hJn : ∀ w1, Below w.heap.size w w1 → J (colsTo c.length k) w1 := fun w1 hb => abide hJ hJk hb
        refine TrL.sem (OpSem.move (.inl rfl) rfl) rfl rfl (by decide) ?_
        refine TrL.sem (OpSem.move (.inl rfl) rfl) rfl rfl (by decide) ?_
        refine TrL.sem (OpSem.move (.inl rfl) rfl) rfl rfl (by decide) ?_
        refine (fun hh O H a w hst => hh O H a w (Sub.st (e' := (26, .d (.v (.func (.yield l) #[] #[]))) :: (27, I (k : Nat)) :: (28, I (colS ps k ps.length)) :: [(0, .d (.v (.func (.yield l) #[] #[]))), (1, .a (capK lb0 Oc W0)), (2, .a (capK lb1 Oc W0)), (9, I (c.length : Int)), (10, I (k : Nat))]) (M' := [])
          (.slot rfl (.refl _) <| .slot rfl (.refl _) <| .slot rfl (.refl _) <| .slot rfl (.refl _) <| .slot rfl (.refl _) <| .slot rfl (.refl _) <| .slot rfl (.refl _) <| .slot rfl (.refl _) <| .nil) hst) : TrL n Try.prog 32 w (belowO W0.heap.size Oc) _ _ _ [] _ → TrL n Try.prog 32 w (belowO W0.heap.size Oc) _ _ _ _ _) ?_
        refine TrL.yield (l := l) (W0 := W0) (Oc := Oc) (vs := [.int .i64 (k : Nat), .int .i64 (colS ps k ps.length)]) (R := fun b w' => (b = true ∧ J (colsTo c.length (k + 1)) w') ∨ (b = false ∧ Jx (colsTo c.length (k + 1)) w')) rfl rfl rfl (by decide) rfl rfl ?_
          (.flat rfl <| .flat rfl <| .flat rfl <| .flat rfl <| .cap <| .cap <| .flat rfl <| .flat rfl <| .nil) ?_ ?_
        · intro w1 hb
          obtain ⟨fn, tm, as_, bo, hr1, hr2⟩ := hY (colsTo c.length k) ⟨k, hk⟩ w1 (hJn w1 hb) (by rw [colsTo_len hkl]; exact hk)
          refine ⟨fn, tm, as_, bo, hr1, hr2.mono ?_⟩
          rintro en w' (⟨rfl, hj1, hj2⟩ | ⟨rfl, hj1⟩)
          · exact ⟨true, rfl, .inl ⟨rfl, by rw [colsTo_s hk]; exact hj1⟩, fun _ => hj2⟩
          · exact ⟨false, rfl, .inr ⟨rfl, by rw [colsTo_s hk]; exact hj1⟩, fun h => by cases h⟩
        · rintro w' (⟨_, hj1⟩ | ⟨hb, _⟩)
          · refine TrL.sem (OpSem.not rfl rfl) rfl rfl (by decide) ?_
            refine TrL.nil ?_
            refine At.seq ?_
            refine Tr.condF rfl rfl ?_
            refine Tr.skip ?_
            refine At.block_normal ?_
            refine At.seq ?_
            refine Tr.region ?_
            refine TrOps.sem (OpSem.bin rfl rfl rfl (badd (by omega) (by omega))) rfl rfl (by decide) ?_
            refine TrOps.sem (OpSem.move (.inl rfl) rfl) rfl rfl (by decide) ?_
            refine TrOps.nil ?_
            intro O2 H2 a2 w2 hst2
            exact ⟨c.length - (k + 1), by omega, k + 1, by omega, rfl, abide hJ hj1 hst2.bl, (Reb.flat (s := .d (.v (.func (.yield l) #[] #[]))) rfl (.refl _) rfl <| .cap rfl <| .cap rfl <| .flat rfl (.refl _) rfl <| .flat rfl (Le.of_eq (by simp)) rfl <| .nil).st hst2⟩
          · cases hb
        · rintro w' (⟨hb, _⟩ | ⟨_, hj1⟩)
          · cases hb
          · refine TrL.sem (OpSem.not rfl rfl) rfl rfl (by decide) ?_
            refine TrL.nil ?_
            refine At.seq ?_
            refine Tr.condT rfl rfl ?_
            refine Tr.ret ?_
            refine At.block_ret ?_
            refine At.pass_ret ?_
            refine At.pass_ret ?_
            refine At.block_ret ?_
            intro O2 H2 a2 w2 hst2
            refine bodyPost_ret (results_none rfl _ _ _) hst2.df ⟨⟨_, rfl⟩, .inr ⟨colsTo c.length (k + 1), ⟨k + 1, by omega, rfl⟩, abide hJx hj1 hst2.bl⟩⟩
  · have hk : k = c.length := by simp at c11; omega
    refine Tr.exit ?_
    refine At.pass_exit ?_
    refine At.pass_exit ?_
    refine At.block_same ?_
    intro O2 H2 a2 w2 hst2
    refine bodyPost_end (results_none rfl _ _ _) hst2.df ⟨⟨_, rfl⟩, .inl ⟨colsTo c.length k, by rw [hk], abide hJ hJk hst2.bl⟩⟩



theorem Tr.start2 {P : Program} {N : Nat} {W : World} {O0 : Nat → Nat} {x0 x1 : Value} {s0 s1 : S} {k : Nat} {c : Code} {Q : Post} (hN : k + 2 = N) (h0 : RepS O0 zH W x0 s0) (h1 : RepS O0 zH W x1 s1)
    (h : Tr P N W O0 [(0, s0), (1, s1)] [] c Q) : c.wp P Q { tmps := #[x0, x1] ++ Array.replicate k undef, defers := [] } W := by
  refine h O0 zH _ W ⟨rfl, by simp; omega, .refl _ _, fun _ _ => rfl, fun n s hs => ?_, fun n s hs => by cases hs⟩
  rcases look_cons hs with ⟨rfl, rfl⟩ | ⟨_, hs⟩
  · exact ⟨x0, by rw [Array.getElem?_append_left (by simp)]; rfl, h0⟩
  · rcases look_cons hs with ⟨rfl, rfl⟩ | ⟨_, hs⟩
    · exact ⟨x1, by rw [Array.getElem?_append_left (by simp)]; rfl, h1⟩
    · cases hs

theorem zcBool : zcells Try.prog 4 = some [.bool false] := by kernel_rfl
theorem heapSet {W : World} {b : Nat} {xs : Array Value} {T : Nat} {v : Value} {i : Nat} (h : W.heap[b]? = some (.cells xs T (0, 0))) : (W.setCell ⟨b, i, none⟩ v).heap[b]? = some (.cells (xs.setIfInBounds i v) T (0, 0)) := by
  obtain ⟨hlt, he⟩ := Array.getElem?_eq_some_iff.1 h
  simp only [World.setCell]
  rw [Array.getElem?_eq_getElem (by rw [Array.size_modify]; exact hlt), Array.getElem_modify_self, he]
  rfl
theorem heapOther {W : World} {b b' : Nat} {v : Value} {i : Nat} (hne : b' ≠ b) : (W.setCell ⟨b, i, none⟩ v).heap[b']? = W.heap[b']? := Below.heap_setCell _ _ _ _ hne
theorem stored {W : World} {b4 b5 T4 T5 : Nat} {x4 x5 x6 v4 v5 v6 : Value} (ne : b4 ≠ b5) (h4 : W.heap[b4]? = some (.cells #[x4] T4 (0, 0))) (h5 : W.heap[b5]? = some (.cells #[x5, x6] T5 (0, 0))) :
    (((W.setCell ⟨b4, 0, none⟩ v4).setCell ⟨b5, 0, none⟩ v5).setCell ⟨b5, 1, none⟩ v6).heap[b4]? = some (.cells #[v4] T4 (0, 0)) ∧
    (((W.setCell ⟨b4, 0, none⟩ v4).setCell ⟨b5, 0, none⟩ v5).setCell ⟨b5, 1, none⟩ v6).heap[b5]? = some (.cells #[v5, v6] T5 (0, 0)) := by
  refine ⟨?_, ?_⟩
  · rw [heapOther ne, heapOther ne]
    exact heapSet h4
  · have h5' : (W.setCell ⟨b4, 0, none⟩ v4).heap[b5]? = some (.cells #[x5, x6] T5 (0, 0)) := by rw [heapOther ne.symm]; exact h5
    exact heapSet (heapSet h5')
theorem repBF {O : Nat → Nat} {H : Nat → Value} {w : World} {b : Bool} {p q : Int} : RepS O H w (.tuple #[.bool b, .agg #[.int .i64 p, .int .i64 q]]) (.t [Bo b, flt (p, q)]) := by
  refine .t [.bool b, .agg #[.int .i64 p, .int .i64 q]] _ rfl fun i x s hx hs => ?_
  rcases i with _ | _ | i
  · simp at hx hs; subst hx; subst hs; exact .d _ _ (.v _)
  · simp at hx hs; subst hx; subst hs
    refine .g [.int .i64 p, .int .i64 q] _ rfl (fun x hx => by simp at hx; rcases hx with rfl | rfl <;> rfl) fun i x s hx hs => ?_
    rcases i with _ | _ | i
    · simp at hx hs; subst hx; subst hs; exact .d _ _ (.v _)
    · simp at hx hs; subst hx; subst hs; exact .d _ _ (.v _)
    · simp at hx
  · simp at hx
theorem keepsOthers_cells {W W' : World} (h1 : W.heap.size ≤ W'.heap.size) {b4 b5 : Nat} {o4 o5 : Obj} (h4 : W.heap[b4]? = some o4) (h5 : W.heap[b5]? = some o5) (c4 : o4.isCells = true) (c5 : o5.isCells = true) (h : ∀ b, b ≠ b4 → b ≠ b5 → W'.heap[b]? = W.heap[b]?) : KeepsOthers W W' := by
  refine ⟨h1, fun k o hk ho => ?_⟩
  have n4 : k ≠ b4 := fun e => by rw [e, h4] at hk; cases hk; rw [c4] at ho; cases ho
  have n5 : k ≠ b5 := fun e => by rw [e, h5] at hk; cases hk; rw [c5] at ho; cases ho
  exact (h k n4 n5).trans hk
attribute [local go_sem] Oper.semAt_some

theorem leaveV {w0 Wf : World} {b4 b5 T4 T5 D : Nat} {b : Bool} {res : S} {O' : Nat → Nat} (l4 : b4 < D) (l5 : b5 < D) (s4 : Wf.heap[b4]? = some (.cells #[.bool b] T4 (0, 0))) (s5 : Wf.heap[b5]? = some (.cells #[.int .i64 0, .int .i64 0] T5 (0, 0))) (hK : Wf.heap[D]? = some (.deferred (some [])))
    (hD : w0.heap.size ≤ D) (hb : Below w0.heap.size w0 Wf) {t0 : List Value} (ht : t0[4]? = some (.pointer (some ⟨b4, 0, none⟩)) := by rfl) (ht5 : t0[5]? = some (.pointer (some ⟨b5, 0, none⟩)) := by rfl)
    (hr : ∀ W, RepS O' zH W (.tuple #[.bool b, .agg #[.int .i64 0, .int .i64 0]]) res) :
    bodyPostM Fence.wide 3 Try.prog Try.f46 (fun en w' => ∃ x, en = .returned x ∧ Below w0.heap.size w0 w' ∧ RepS O' zH w' x res) .ret { tmps := t0.toArray, defers := [{ target := .collected D, args := #[] }] } Wf := by
  refine ⟨by simp, .inl ⟨D, _, rfl, run_takeDeferred hK, ?_⟩⟩
  have h4 : (Wf.putObj D (.deferred none)).cell? ⟨b4, 0, none⟩ = some (.bool b) := cellOf ((World.putObj_heap_other (by omega)).trans s4) rfl
  have h5 : (Wf.putObj D (.deferred none)).cell? ⟨b5, 0, none⟩ = some (.int .i64 0) := cellOf ((World.putObj_heap_other (by omega)).trans s5) rfl
  have h6 : (Wf.putObj D (.deferred none)).cell? ⟨b5, 1, none⟩ = some (.int .i64 0) := cellOf ((World.putObj_heap_other (by omega)).trans s5) rfl
  have hbf : Below w0.heap.size w0 (Wf.putObj D (.deferred none)) := hb.trans (belowK_b (w := w0) (Nat.le_refl _) Wf D _ _ hD hK rfl rfl)
  generalize Wf.putObj D (.deferred none) = W3 at h4 h5 h6 hbf
  refine ⟨.tuple #[.bool b, .agg #[.int .i64 0, .int .i64 0]], ?_, _, rfl, hbf, hr _⟩
  simp [results, Try.f46, ht, ht5, asAddr, run_loadVar1 vsBool h4, run_loadVarN (xs := [.int .i64 0, .int .i64 0]) vs29 (w := W3) (b := b5) (off := 0) (fun j v hj => by rcases j with _ | _ | j <;> simp at hj <;> subst hj <;> assumption)]

theorem partition_Valid_does (c : List Int) (ps : List (List Int)) : Does Try.prog false 46 [.d (ints c), .d (rows ps)] (.t [Bo (prtR c ps), flt (prtF c ps)]) := by
  refine ⟨Try.call46, fun O w0 xs hl hx => ?_⟩
  obtain ⟨x0, x1, rfl⟩ : ∃ x0 x1, xs = [x0, x1] := by match xs, hl with | [a, b], _ => exact ⟨a, b, rfl⟩
  refine (callsIn_wide (n := 3)).1 (callsIn_of_wp_marks Try.func46 rfl trivial (wpIn_wide.2 ?_))
  refine Tr.start2 (N := 29) (O0 := O) (by rw [Try.ntmps46]; rfl) (hx 0 x0 _ rfl rfl) (hx 1 x1 _ rfl rfl) ?_

  refine Tr.seq ?_
  refine Tr.region ?_
  refine TrOps.semM (OpSem.box 2 rfl rfl rfl rfl) rfl rfl (by decide) ?_
  refine TrOps.semM (OpSem.alloc 4 rfl zcBool rfl) rfl rfl (by decide) ?_
  refine TrOps.semM (OpSem.alloc 5 rfl zc29 rfl) rfl rfl (by decide) ?_
  refine TrOps.nil ?_
  refine At.seq ?_
  refine Tr.seq ?_
  refine Tr.seq ?_
  refine Tr.region ?_
  refine TrOps.sem (OpSem.loadb1 rfl rfl rfl vs22 rfl) rfl rfl (by decide) ?_
  refine TrOps.sem (OpSem.move (.inl rfl) rfl) rfl rfl (by decide) ?_
  refine TrOps.sem (OpSem.call0 (partition_check_does c ps) rfl rfl rfl rfl (Les.refl _)) rfl rfl (by decide) ?_
  refine TrOps.semM (OpSem.alloc 6 rfl zc29 rfl) rfl rfl (by decide) ?_
  refine TrOps.storeb rfl rfl rfl rfl rfl rfl rfl vs29 (by first | decide | simp) ?_
  refine TrOps.nil ?_
  refine At.seq ?_
  refine Tr.seq ?_
  refine Tr.region ?_
  refine TrOps.sem (OpSem.loadbN rfl rfl rfl vs29 (by first | decide | simp)) rfl rfl (by decide) ?_
  refine TrOps.sem (OpSem.build rfl rfl pl29 zc29 rfl rfl) rfl rfl (by decide) ?_
  refine TrOps.sem (OpSem.neS2 rfl rfl rfl io29) rfl rfl (by decide) ?_
  refine TrOps.nil ?_
  refine At.seq ?_
  refine Tr.cond rfl (fun c14 => ?_) (fun c14 => ?_)
  · have hne : prtF c ps ≠ (0, 0) := fun e => by simp [e] at c14
    refine Tr.seq ?_
    refine PC.start [4] ?_
    refine PC.sem (OpSem.loadbN rfl rfl rfl vs29 (by first | decide | simp)) rfl rfl ?_
    refine PC.storeb 100001 rfl rfl rfl rfl rfl rfl rfl vsBool (by first | decide | simp) ?_
    refine PC.done mixed (by kernel_rfl) (by kernel_rfl) (by kernel_rfl) (by kernel_rfl) ?_
    refine TrOps.storeb rfl rfl rfl rfl rfl rfl rfl vs29 (by first | decide | simp) ?_
    refine TrOps.nil ?_
    refine At.seq ?_
    refine Tr.ret ?_
    refine At.pass_ret ?_
    refine At.marks ?_
    exact At.ret rfl (.cell1 rfl rfl vsBool <| .cellN rfl rfl vs29 <| .nil) rfl (Le.t (.cons (Le.bo (prtR_1 hne).symm) <| .cons (.refl _) <| .nil))
  have h1 : prtF c ps = (0, 0) := pair0 (by simpa using c14)
  refine Tr.skip ?_
  refine At.seq ?_
  refine Tr.seq ?_
  refine Tr.seq ?_
  refine Tr.region ?_
  refine TrOps.sem (OpSem.loadb1 rfl rfl rfl vs22 rfl) rfl rfl (by decide) ?_
  refine TrOps.sem (OpSem.move (.inl rfl) rfl) rfl rfl (by decide) ?_
  refine TrOps.sem (OpSem.call0 (partition_sums_does c ps) rfl rfl rfl rfl (Les.refl _)) rfl rfl (by decide) ?_
  refine TrOps.nil ?_
  refine At.seq ?_
  refine Tr.block ?_

  obtain ⟨_, hc40, hcp, hp6, hps⟩ := prtF_ok h1
  intro O1 H a w hst
  obtain ⟨b2, X2, T2, hy2, hB2, hb2, hl2, hc2⟩ := hst.boxAt (n := 2) (h := 2) rfl rfl
  obtain ⟨b4, X4, T4, hy4, hB4, hb4, hl4, hc4⟩ := hst.boxAt (n := 4) (h := 4) rfl rfl
  obtain ⟨b5, X5, T5, hy5, hB5, hb5, hl5, hc5⟩ := hst.boxAt (n := 5) (h := 5) rfl rfl
  obtain ⟨sv, hsv, rsv⟩ := hc2 0 _ rfl
  obtain rfl := cells1 hl2 hsv
  obtain ⟨v4, hv4, r4⟩ := hc4 0 _ rfl
  obtain rfl := r4.vEq
  obtain rfl := cells1 hl4 hv4
  obtain ⟨v5, hv5, r5⟩ := hc5 0 _ rfl
  obtain rfl := r5.vEq
  obtain ⟨v6, hv6, r6⟩ := hc5 1 _ rfl
  obtain rfl := r6.vEq
  obtain rfl := cells2 hl5 hv5 hv6
  obtain ⟨y18, hy18, r18⟩ := hst.slots 18 _ rfl
  obtain ⟨lb0, lb1, rfl, r0, r1⟩ : ∃ lb0 lb1, y18 = .func (.func 106) #[] #[lb0, lb1] ∧ RepS O1 zH w lb0 (.p [ints c]) ∧ RepS O1 zH w lb1 (.p [rows ps]) := by
    cases r18 with
    | f fn xs ys fs cs hl hl' hh hh' =>
      match xs, ys, hl, hl' with
      | [], [p, q], _, _ =>
        refine ⟨p, q, rfl, ?_, ?_⟩
        · have := hh' 0 p _ rfl rfl
          cases this with
          | p b off cs' y a1 a2 a3 => exact .p b off _ y a1 a2 a3
        · have := hh' 1 q _ rfl rfl
          cases this with
          | p b off cs' y a1 a2 a3 => exact .p b off _ y a1 a2 a3
  have hbl := hst.bl
  have hsz : a.tmps.size = 29 := hst.sz
  have hdf : a.defers = [] := hst.df
  have rsvd : RepD O1 w sv (ints c) := by
    cases rsv with
    | d _ _ h => exact h
  clear hst hx hc2 hc4 hc5 r4 r5 r6 r18 rsv hl2 hl4 hl5 hsv hv4 hv5 hv6
  obtain ⟨⟨l0⟩, df⟩ := a
  simp only at hsz hdf hy2 hy4 hy5 hy18
  subst hdf
  have z0 : l0.length = 29 := hsz
  clear hsz
  obtain ⟨u0, l1, rfl, z1⟩ := len_cons z0
  obtain ⟨u1, l2, rfl, z2⟩ := len_cons z1
  obtain ⟨u2, l3, rfl, z3⟩ := len_cons z2
  obtain ⟨u3, l4, rfl, z4⟩ := len_cons z3
  obtain ⟨u4, l5, rfl, z5⟩ := len_cons z4
  obtain ⟨u5, l6, rfl, z6⟩ := len_cons z5
  obtain ⟨u6, l7, rfl, z7⟩ := len_cons z6
  obtain ⟨u7, l8, rfl, z8⟩ := len_cons z7
  obtain ⟨u8, l9, rfl, z9⟩ := len_cons z8
  obtain ⟨u9, l10, rfl, z10⟩ := len_cons z9
  obtain ⟨u10, l11, rfl, z11⟩ := len_cons z10
  obtain ⟨u11, l12, rfl, z12⟩ := len_cons z11
  obtain ⟨u12, l13, rfl, z13⟩ := len_cons z12
  obtain ⟨u13, l14, rfl, z14⟩ := len_cons z13
  obtain ⟨u14, l15, rfl, z15⟩ := len_cons z14
  obtain ⟨u15, l16, rfl, z16⟩ := len_cons z15
  obtain ⟨u16, l17, rfl, z17⟩ := len_cons z16
  obtain ⟨u17, l18, rfl, z18⟩ := len_cons z17
  obtain ⟨u18, l19, rfl, z19⟩ := len_cons z18
  obtain ⟨u19, l20, rfl, z20⟩ := len_cons z19
  obtain ⟨u20, l21, rfl, z21⟩ := len_cons z20
  obtain ⟨u21, l22, rfl, z22⟩ := len_cons z21
  obtain ⟨u22, l23, rfl, z23⟩ := len_cons z22
  obtain ⟨u23, l24, rfl, z24⟩ := len_cons z23
  obtain ⟨u24, l25, rfl, z25⟩ := len_cons z24
  obtain ⟨u25, l26, rfl, z26⟩ := len_cons z25
  obtain ⟨u26, l27, rfl, z27⟩ := len_cons z26
  obtain ⟨u27, l28, rfl, z28⟩ := len_cons z27
  obtain ⟨u28, l29, rfl, z29⟩ := len_cons z28
  obtain rfl := List.length_eq_zero_iff.1 z29
  simp only [List.getElem?_toArray, List.getElem?_cons_succ, List.getElem?_cons_zero, Option.some.injEq] at hy2 hy4 hy5 hy18
  subst hy2 hy4 hy5 hy18
  have ne45 : b4 ≠ b5 := fun e => by rw [e, hb5] at hb4; cases hb4
  refine wpIn_wide.1 (wpIn_rangeFunc_ownF (n := 3) rfl (by decide) (gf := 106) (lb := #[lb0, lb1]) rfl trivial Try.call106 (partition_sums_1_stops c ps h1 O1 w lb0 lb1 r0 r1 2) belowK_t (belowK_b (Nat.le_refl _)) (Below.refl _ _) (fun _ => rfl)
    (fun pre W => (∀ p, p ∈ pre → colS ps p.1 ps.length ≤ nth c p.1) ∧ Below w.heap.size w W)
    (fun co pre W => (co = .ret ∧ (∃ p, p ∈ pre ∧ nth c p.1 < colS ps p.1 ps.length) ∧ W.heap[b4]? = some (.cells #[.bool false] T4 (0, 0)) ∧ W.heap[b5]? = some (.cells #[.int .i64 0, .int .i64 0] T5 (0, 0))) ∧ Below w0.heap.size w0 W)
    ?hI ?hIx ⟨fun p hp => by simp at hp, .refl _ _⟩
    (fun x => { tmps := #[u0, u1, .pointer (some ⟨b2, 0, none⟩), u3, .pointer (some ⟨b4, 0, none⟩), .pointer (some ⟨b5, 0, none⟩), u6, .int .i64 (x.1 : Int), .int .i64 (colS ps x.1 ps.length), u9, u10, u11, u12, u13, u14, u15, u16, u17, .func (.func 106) #[] #[lb0, lb1], .int .i64 (x.1 : Int), .int .i64 (colS ps x.1 ps.length), u21, u22, u23, u24, u25, u26, u27, u28], defers := [] }) ?assign ?body ?done ?stop)
  case hI => exact OwnFrom.and (fun s A B row hs hg hr => hs) (ownFrom_below (Nat.le_refl _) (Nat.le_refl _))
  case hIx =>
    intro co
    refine OwnFrom.and (fun s A B row hs hg hr => ?_) (ownFrom_below (Nat.le_refl _) hbl.size)
    obtain ⟨h1, h2, h3, h4⟩ := hs
    have hr' : ∀ r, row = some r → ∃ o : Obj, A.heap[r]? = some o ∧ o.isCells = false := fun r e => (hr r e).2
    exact ⟨h1, h2, (grownBy_keeps_cells hg hr' h3 rfl).trans h3, (grownBy_keeps_cells hg hr' h4 rfl).trans h4⟩
  case assign =>
    intro l x W K hK
    gi_wp2
    exact hK
  case body =>
    rintro l pre x W ⟨hp, hB⟩ _
    obtain ⟨bs, off, cap, rfl, hcell⟩ := rsvd.intCells (by have := x.2; omega)
    have hx0 := x.2
    have hcx : W.cell? ⟨bs, off + x.1, none⟩ = some (.int .i64 (nth c x.1)) := by
      have := hcell x.1 x.2
      rw [← this]
      exact World.cell?_of_block (hB.block bs (World.block_lt_of_cell? w _ this))
    have hcb : W.cell? ⟨b2, 0, none⟩ = some (.slice (some ⟨bs, off, none⟩) c.length cap) := cellOf ((hB.block b2 (Array.getElem?_eq_some_iff.1 hb2).1).trans hb2) rfl
    clear hcell
    have hb4' : W.heap[b4]? = some (.cells #[.bool false] T4 (0, 0)) := (hB.block b4 (Array.getElem?_eq_some_iff.1 hb4).1).trans hb4
    have hb5' : W.heap[b5]? = some (.cells #[.int .i64 0, .int .i64 0] T5 (0, 0)) := (hB.block b5 (Array.getElem?_eq_some_iff.1 hb5).1).trans hb5
    have k4 : W.cell? ⟨b4, 0, none⟩ = some (.bool false) := cellOf hb4' rfl
    have k5 : W.cell? ⟨b5, 0, none⟩ = some (.int .i64 0) := cellOf hb5' rfl
    have k6 : W.cell? ⟨b5, 1, none⟩ = some (.int .i64 0) := cellOf hb5' rfl
    have f4 : W.frozen? ⟨b4, 0, none⟩ = false := by simp [World.frozen?, hb4']
    have f5 : W.frozen? ⟨b5, 0, none⟩ = false := by simp [World.frozen?, hb5']
    have f6 : W.frozen? ⟨b5, 1, none⟩ = false := by simp [World.frozen?, hb5']
    gi_wp2
    · have hlt : nth c x.1 < colS ps x.1 ps.length := by assumption
      obtain ⟨s4, s5⟩ := stored (v4 := .bool false) (v5 := .int .i64 0) (v6 := .int .i64 0) ne45 hb4' hb5'
      exact ⟨keepsOthers_cells (by simp [World.setCell]) hb4' hb5' rfl rfl (fun b n4 n5 => by rw [heapOther n5, heapOther n5, heapOther n4]), ⟨rfl, ⟨x, by simp, hlt⟩, s4, s5⟩,
        (((hbl.trans (hB.mono hbl.size)).setCell (p := ⟨b4, 0, none⟩) hB4 _).setCell (p := ⟨b5, 0, none⟩) hB5 _).setCell (p := ⟨b5, 1, none⟩) hB5 _⟩
    · have hge : colS ps x.1 ps.length ≤ nth c x.1 := by assumption
      exact ⟨.refl _, .refl _ _, fun p hp' => (List.mem_append.1 hp').elim (hp p) (fun e => by simp at e; subst e; exact hge), hB⟩
  case done =>
    rintro D xs W hD rfl ⟨hp, hB⟩ hK
    refine wpIn_wide (n := 3) |>.1 ?_
    have hb4' : W.heap[b4]? = some (.cells #[.bool false] T4 (0, 0)) := (hB.block b4 (Array.getElem?_eq_some_iff.1 hb4).1).trans hb4
    have hb5' : W.heap[b5]? = some (.cells #[.int .i64 0, .int .i64 0] T5 (0, 0)) := (hB.block b5 (Array.getElem?_eq_some_iff.1 hb5).1).trans hb5
    have k4 : W.cell? ⟨b4, 0, none⟩ = some (.bool false) := cellOf hb4' rfl
    have k5 : W.cell? ⟨b5, 0, none⟩ = some (.int .i64 0) := cellOf hb5' rfl
    have k6 : W.cell? ⟨b5, 1, none⟩ = some (.int .i64 0) := cellOf hb5' rfl
    have f4 : W.frozen? ⟨b4, 0, none⟩ = false := by simp [World.frozen?, hb4']
    have f5 : W.frozen? ⟨b5, 0, none⟩ = false := by simp [World.frozen?, hb5']
    have f6 : W.frozen? ⟨b5, 1, none⟩ = false := by simp [World.frozen?, hb5']
    gi_wp2
    obtain ⟨s4, s5⟩ := stored (v4 := .bool true) (v5 := .int .i64 0) (v6 := .int .i64 0) ne45 hb4' hb5'
    have hbW := (((hbl.trans (hB.mono hbl.size)).setCell (p := ⟨b4, 0, none⟩) hB4 (.bool true)).setCell (p := ⟨b5, 0, none⟩) hB5 (.int .i64 0)).setCell (p := ⟨b5, 1, none⟩) hB5 (.int .i64 0)
    have l4 := (Array.getElem?_eq_some_iff.1 hb4).1
    have l5 := (Array.getElem?_eq_some_iff.1 hb5).1
    have hK' : (((W.setCell ⟨b4, 0, none⟩ (.bool true)).setCell ⟨b5, 0, none⟩ (.int .i64 0)).setCell ⟨b5, 1, none⟩ (.int .i64 0)).heap[D]? = some (.deferred (some [])) := by rw [heapOther (by omega), heapOther (by omega), heapOther (by omega)]; exact hK
    generalize ((W.setCell ⟨b4, 0, none⟩ (.bool true)).setCell ⟨b5, 0, none⟩ (.int .i64 0)).setCell ⟨b5, 1, none⟩ (.int .i64 0) = Wf at s4 s5 hbW hK'
    have hfit : prtR c ps = true := by
      rw [prtR_0 h1]
      exact decide_eq_true fun y hy => hp ⟨y, hy⟩ (colsTo_mem _)
    clear k4 k5 k6 f4 f5 f6
    exact leaveV (Nat.lt_of_lt_of_le l4 hD) (Nat.lt_of_lt_of_le l5 hD) s4 s5 hK' (Nat.le_trans hbl.size hD) hbW (hr := fun W => by rw [hfit, h1]; exact repBF)
  case stop =>
    rintro D co pre W hD _ ⟨⟨rfl, ⟨p, hp, hlt⟩, s4, s5⟩, hB⟩ hK
    have l4 := (Array.getElem?_eq_some_iff.1 hb4).1
    have l5 := (Array.getElem?_eq_some_iff.1 hb5).1
    have hfit : prtR c ps = false := by
      rw [prtR_0 h1]
      exact decide_eq_false fun hh => by have := hh p.1 p.2; omega
    refine wpIn_ret ?_
    exact leaveV (Nat.lt_of_lt_of_le l4 hD) (Nat.lt_of_lt_of_le l5 hD) s4 s5 hK (Nat.le_trans hbl.size hD) hB (hr := fun W => by rw [hfit, h1]; exact repBF)


end Go.Proofs.Ytohlmcebphcokaa
